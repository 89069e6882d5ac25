/- Words for walks by hand: how a world steps to another (all but some blocks stay), blocks known whole, slices that may begin inside their block. Own work of this seat; no condition. -/
import Derived.WalkKit
import Derived.KernelRfl
import Derived.RowKit3
import Derived.OneCell
import Derived.Laws.AppendOwn
import Derived.Laws.IdiomCopy
import Derived.Lib.AppendStr
import Derived.Lib.Hide
import Derived.Deep.Draws
import Derived.Laws.Slices
import Derived.Laws.CopyRow
import Derived.Laws.BytesArg
namespace Go.Proofs.YtdglbpjgadjnjaaDoor.Kit
open Go.RowKit

/-- From w to w' all that was there stays, but for the blocks of F. -/
structure Step (F : Nat → Prop) (w w' : World) : Prop where
  os : w'.os = w.os
  tape : w'.tape = w.tape
  output : w'.output = w.output
  size : w.heap.size ≤ w'.heap.size
  block : ∀ k, k < w.heap.size → ¬ F k → w'.heap[k]? = w.heap[k]?

theorem Step.refl (F : Nat → Prop) (w : World) : Step F w w := ⟨rfl, rfl, rfl, Nat.le_refl _, fun _ _ _ => rfl⟩
theorem Step.trans {F G : Nat → Prop} {a b c : World} (h : Step F a b) (k : Step G b c) (hG : ∀ j, j < a.heap.size → G j → F j) : Step F a c :=
  ⟨k.os.trans h.os, k.tape.trans h.tape, k.output.trans h.output, Nat.le_trans h.size k.size, fun j hj hF => (k.block j (Nat.lt_of_lt_of_le hj h.size) (fun hg => hF (hG j hj hg))).trans (h.block j hj hF)⟩
theorem Step.mono {F G : Nat → Prop} {a b : World} (h : Step F a b) (hG : ∀ j, j < a.heap.size → F j → G j) : Step G a b :=
  ⟨h.os, h.tape, h.output, h.size, fun j hj hg => h.block j hj (fun hf => hg (hG j hj hf))⟩
theorem Step.same {F : Nat → Prop} {a b c : World} (h : Step F a b) (k : Step F b c) : Step F a c := h.trans k (fun _ _ h => h)
theorem Step.drew {F : Nat → Prop} {a w : World} (h : Step F a w) : Step F a w.drew := ⟨h.os, h.tape, h.output, h.size, h.block⟩
theorem Step.drewN {F : Nat → Prop} {a w : World} (h : Step F a w) (n : Nat) : Step F a (w.drewN n) := ⟨h.os, h.tape, h.output, h.size, h.block⟩
theorem Step.alloc {F : Nat → Prop} {a w : World} (h : Step F a w) (o : Obj) : Step F a (w.alloc o) :=
  ⟨h.os, h.tape, h.output, Nat.le_trans h.size (by show _ ≤ (w.heap.push o).size; rw [Array.size_push]; omega), fun j hj hF => (Below.heap_alloc w o j (Nat.lt_of_lt_of_le hj h.size)).trans (h.block j hj hF)⟩
theorem Step.setCell {F : Nat → Prop} {a w : World} (h : Step F a w) {p : Addr} (hp : p.block < a.heap.size → F p.block) (u : Value) : Step F a (w.setCell p u) :=
  ⟨h.os, h.tape, h.output, by simpa [World.setCell] using h.size, fun j hj hF => (Below.heap_setCell w p u j (fun e => hF (by rw [e] at hj ⊢; exact hp hj))).trans (h.block j hj hF)⟩
theorem Step.of_below {F : Nat → Prop} {w w' : World} (h : Below w.heap.size w w') : Step F w w' := ⟨h.os, h.tape, h.output, h.size, fun j hj _ => h.block j hj⟩
theorem Step.of_grown {F : Nat → Prop} {w w' : World} {row : Option Nat} (h : w.grownBy w' row) (hr : ∀ k, row = some k → k < w.heap.size → F k) : Step F w w' :=
  ⟨h.os, h.tape, h.output, h.size, fun j hj hF => h.block j hj (fun e => hF (hr j e.symm hj))⟩
theorem Step.below {F : Nat → Prop} {B : Nat} {w w' : World} (h : Step F w w') (hB : B ≤ w.heap.size) (hF : ∀ k, F k → B ≤ k) : Below B w w' :=
  ⟨h.os, h.tape, h.output, h.size, fun k hk => h.block k (Nat.lt_of_lt_of_le hk hB) (fun hf => by have := hF k hf; omega)⟩
theorem Step.then_below {F : Nat → Prop} {a b c : World} (h : Step F a b) (k : Below b.heap.size b c) : Step F a c := h.same (Step.of_below k)

/-- Block b is known whole. -/
def Blk (w : World) (b : Nat) (T : TypeId) (cs : List Value) : Prop := w.heap[b]? = some (.cells cs.toArray T (0, 0))
section
variable {w w' : World} {b : Nat} {T : TypeId} {cs : List Value} {F : Nat → Prop}
theorem Blk.lt (h : Blk w b T cs) : b < w.heap.size := lt_of_block h
theorem Blk.cell (h : Blk w b T cs) {i : Nat} {u : Value} (hi : cs[i]? = some u) : w.cell? ⟨b, i, none⟩ = some u := by
  unfold Blk at h
  simp [World.cell?, h, hi]
theorem Blk.free (h : Blk w b T cs) (i : Nat) : w.frozen? ⟨b, i, none⟩ = false := by
  unfold Blk at h
  simp [World.frozen?, h]
theorem Blk.keep (h : Blk w b T cs) (hs : Step F w w') (hb : ¬ F b) : Blk w' b T cs := (hs.block b h.lt hb).trans h
theorem Blk.drew (h : Blk w b T cs) : Blk w.drew b T cs := h
theorem Blk.drewN (h : Blk w b T cs) (n : Nat) : Blk (w.drewN n) b T cs := h
theorem Blk.alloc (h : Blk w b T cs) (o : Obj) : Blk (w.alloc o) b T cs := (Below.heap_alloc w o b h.lt).trans h
theorem Blk.set (h : Blk w b T cs) (i : Nat) (u : Value) : Blk (w.setCell ⟨b, i, none⟩ u) b T (cs.set i u) := by
  unfold Blk at h ⊢
  simp [World.setCell, Array.getElem?_modify, h]
theorem Blk.other (h : Blk w b T cs) {p : Addr} (hp : b ≠ p.block) (u : Value) : Blk (w.setCell p u) b T cs := (Below.heap_setCell w p u b hp).trans h
theorem blk_new (w : World) (cs : List Value) (T : TypeId) : Blk (w.alloc (.cells cs.toArray T (0, 0))) w.heap.size T cs := by
  show (w.heap.push _)[w.heap.size]? = _
  simp
end

theorem step_put (w : World) (b i : Nat) (u : Value) : Step (· = b) w (w.setCell ⟨b, i, none⟩ u) := (Step.refl (· = b) w).setCell (p := ⟨b, i, none⟩) (fun _ => rfl) u

/-- Behind a store into a block that is known whole (its region drew): the world gets a letter. -/
theorem put_drew {P : Program} {c : Code} {Q : Exit → Act → World → Prop} {a : Act} {w : World} {b : Nat} {T : TypeId} {cs : List Value} {i : Nat} {u : Value} (h : Blk w b T cs)
    (k : ∀ w1, Blk w1 b T (cs.set i u) → Step (· = b) w w1 → Code.wp P c Q a w1) : Code.wp P c Q a (w.setCell ⟨b, i, none⟩ u).drew :=
  k _ (h.set i u) (((Step.refl (· = b) w).setCell (p := ⟨b, i, none⟩) (fun _ => rfl) u).drew)
theorem put_plain {P : Program} {c : Code} {Q : Exit → Act → World → Prop} {a : Act} {w : World} {b : Nat} {T : TypeId} {cs : List Value} {i : Nat} {u : Value} (h : Blk w b T cs)
    (k : ∀ w1, Blk w1 b T (cs.set i u) → Step (· = b) w w1 → Code.wp P c Q a w1) : Code.wp P c Q a (w.setCell ⟨b, i, none⟩ u) :=
  k _ (h.set i u) ((Step.refl (· = b) w).setCell (p := ⟨b, i, none⟩) (fun _ => rfl) u)

/-- Behind a new block. -/
theorem alloc_next {P : Program} {c : Code} {Q : Exit → Act → World → Prop} {a : Act} {w : World} {T : TypeId} {cs : List Value}
    (k : ∀ w1, Blk w1 w.heap.size T cs → Step (fun _ => False) w w1 → Code.wp P c Q a w1) : Code.wp P c Q a (w.alloc (.cells cs.toArray T)) :=
  k _ (blk_new w cs T) ((Step.refl _ _).alloc _)

/-- Behind two new blocks. -/
theorem alloc_next2 {P : Program} {c : Code} {Q : Exit → Act → World → Prop} {a : Act} {w : World} {T T' : TypeId} {cs ds : List Value}
    (k : ∀ w1, Blk w1 w.heap.size T cs → Blk w1 (w.heap.size + 1) T' ds → Step (fun _ => False) w w1 → w.heap.size + 1 < w1.heap.size → Code.wp P c Q a w1) : Code.wp P c Q a ((w.alloc (.cells cs.toArray T)).alloc (.cells ds.toArray T')) := by
  have e : (w.alloc (.cells cs.toArray T)).heap.size = w.heap.size + 1 := by show (w.heap.push _).size = _; simp
  have h2 := blk_new (w.alloc (.cells cs.toArray T)) ds T'
  rw [e] at h2
  exact k _ ((blk_new w cs T).alloc _) h2 (((Step.refl _ _).alloc _).alloc _) h2.lt

/-- The slice .slice A n c (elements of type e, one cell each) reads as xs; its block is known up to its capacity. -/
def Seg (w : World) (e : TypeId) (A : Option Addr) (n c : Nat) (xs : List Value) : Prop :=
  xs.length = n ∧ ((A = none ∧ c = 0 ∧ xs = []) ∨ ∃ g o cur, A = some ⟨g, o, none⟩ ∧ w.heap[g]? = some (.cells cur e (0, 0)) ∧ n ≤ c ∧ o + c ≤ cur.size ∧ ∀ i u, xs[i]? = some u → cur[o + i]? = some u)

/-- A slice's block. -/
def blockOf : Option Addr → Option Nat
  | some a => some a.block
  | none => none

section
variable {w w' : World} {e : TypeId} {A : Option Addr} {n c : Nat} {xs : List Value} {F : Nat → Prop}
theorem seg_nil (w : World) (e : TypeId) : Seg w e none 0 0 [] := ⟨rfl, .inl ⟨rfl, rfl, rfl⟩⟩
theorem Seg.len (h : Seg w e A n c xs) : xs.length = n := h.1
theorem Seg.le (h : Seg w e A n c xs) : n ≤ c := by
  obtain ⟨h1, ⟨rfl, rfl, rfl⟩ | ⟨g, o, cur, rfl, _, h2, _⟩⟩ := h
  · simp at h1; omega
  · exact h2
theorem Seg.keep (h : Seg w e A n c xs) (hs : Step F w w') (hF : ∀ k, blockOf A = some k → ¬ F k) : Seg w' e A n c xs := by
  obtain ⟨h1, ⟨rfl, rfl, rfl⟩ | ⟨g, o, cur, rfl, h2, h3⟩⟩ := h
  · exact ⟨h1, .inl ⟨rfl, rfl, rfl⟩⟩
  · exact ⟨h1, .inr ⟨g, o, cur, rfl, (hs.block g (lt_of_block h2) (hF g rfl)).trans h2, h3⟩⟩
theorem Seg.lt (h : Seg w e A n c xs) {k : Nat} (hk : blockOf A = some k) : k < w.heap.size := by
  obtain ⟨h1, ⟨rfl, rfl, rfl⟩ | ⟨g, o, cur, rfl, h2, h3⟩⟩ := h
  · cases hk
  · obtain rfl : g = k := Option.some.inj hk
    exact lt_of_block h2
theorem Seg.cell (h : Seg w e A n c xs) {i : Nat} {u : Value} (hi : xs[i]? = some u) : ∃ g o, A = some ⟨g, o, none⟩ ∧ w.cell? ⟨g, o + i, none⟩ = some u := by
  obtain ⟨h1, ⟨rfl, rfl, rfl⟩ | ⟨g, o, cur, rfl, h2, h3, h4, h5⟩⟩ := h
  · simp at hi
  · exact ⟨g, o, rfl, by simp [World.cell?, h2, h5 i u hi]⟩
theorem Blk.seg {b : Nat} {T : TypeId} {cs : List Value} (h : Blk w b T cs) (hn : n = cs.length) : Seg w T (some ⟨b, 0, none⟩) n n cs := by
  subst hn
  exact ⟨rfl, .inr ⟨b, 0, cs.toArray, rfl, h, Nat.le_refl _, by simp, fun i u hi => by simpa using hi⟩⟩
/-- xs[k:] -/
theorem seg_drop {P : Program} {t : TypeId} (ht : P.underlying t = some (.slice (P.elem t))) (hsz : ∀ wx, (sizeOf (P.elem t)).run P wx = .ok 1 wx) (h : Seg w e A n c xs) {k : Nat} (kI : Int) (hkI : kI = (k : Int)) (hk : k ≤ n) :
    ∃ A' c', (∀ wx, (Instr.slice t (.slice A n c) (some (.int .i64 kI)) none none).run P wx = .ok (.slice A' (n - k) c') wx) ∧ Seg w e A' (n - k) c' (xs.drop k) ∧ blockOf A' = blockOf A ∧ c' = c - k := by
  subst hkI
  refine ⟨if c = k then A else A.map (·.add (k * 1)), c - k, fun wx => ?_, ?_, ?_, rfl⟩
  · rw [run_slice_l (P := P) wx t A n c ht .i64 (k : Int) (by omega) (by omega), hsz wx]
    simp [Result.andThen, sliced]
  · obtain ⟨h1, ⟨rfl, rfl, rfl⟩ | ⟨g, o, cur, rfl, h2, h3, h4, h5⟩⟩ := h
    · simp at h1
      subst h1
      exact ⟨by simp, .inl ⟨by simp, by simp, by simp⟩⟩
    · refine ⟨by simp [h1], .inr ?_⟩
      by_cases hck : c = k
      · rw [if_pos hck]
        exact ⟨g, o, cur, rfl, h2, by omega, by omega, fun i u hi => by
          rw [List.getElem?_drop, List.getElem?_eq_none (by omega)] at hi
          cases hi⟩
      · rw [if_neg hck]
        refine ⟨g, o + k, cur, ?_, h2, by omega, by omega, fun i u hi => ?_⟩
        · simp only [Option.map_some, Addr.add, Nat.mul_one]
          by_cases hk0 : k = 0
          · subst hk0; simp
          · simp [hk0]
        · rw [List.getElem?_drop] at hi
          rw [Nat.add_assoc]
          exact h5 _ _ hi
  · by_cases hck : c = k
    · rw [if_pos hck]
    · rw [if_neg hck]
      cases A with
      | none => rfl
      | some a => simp only [Option.map_some, blockOf, Addr.add]; split <;> rfl
end

section
variable {P : Program} (w : World)
open Go.Lib
/-- A string's bytes behind what a slice reads. -/
theorem run_append_seg_string (t u ty e : TypeId) (i : TypeInfo) (ht : P.underlying t = some (.slice e)) (hu : P.underlying u = some .string) (hi : P.info? e = some i) (hz : i.zero = some (.int .u8 0)) (hs1 : i.size = 1) (hby : i.bytes = 1)
    {A : Option Addr} {n c : Nat} {xs : List Value} (h : Seg w e A n c xs) (s : ByteArray) (hb : n + s.size ≤ 140737488355328) :
    ∃ A' c' w', (Builtin.append_ #[t, u] ty #[.slice A n c, .string s]).run P w = .ok (.slice A' (n + s.size) c') w' ∧ Seg w' e A' (n + s.size) c' (xs ++ strCells s) ∧ Step (fun k => blockOf A = some k) w w' ∧ (blockOf A' = blockOf A ∨ ∃ k, blockOf A' = some k ∧ w.heap.size ≤ k) := by
  have hlen : (xs ++ strCells s).length = n + s.size := by rw [List.length_append, h.len, strCells_length]
  have one1 : (Value.int IntKind.u8 0).cells.size = 1 := rfl
  have grown : ∀ (old : Nat), old < n + s.size →
      Seg (w.drew.alloc (.cells (xs.toArray ++ (strCells s).toArray ++ Builtin.zeroCells (Value.int .u8 0).cells (grownCap w (n + s.size) old e - (n + s.size))) e)) e (some ⟨w.heap.size, 0, none⟩) (n + s.size) (grownCap w (n + s.size) old e) (xs ++ strCells s) := by
    intro old ho
    have hge := grownCap_ge w (n + s.size) old e
    have hxl := h.len
    refine ⟨hlen, .inr ⟨w.heap.size, 0, _, rfl, heap_alloc_new w.drew _, hge, ?_, fun j u hj => ?_⟩⟩
    · simp only [Array.size_append, List.size_toArray, size_zeroCells, one1, hxl, strCells_length]
      omega
    · rw [Nat.zero_add, ← Array.getElem?_toList]
      simp only [Array.toList_append, List.append_assoc]
      rw [← List.append_assoc, List.getElem?_append_left (List.getElem?_eq_some_iff.1 hj).1]
      exact hj
  obtain ⟨hxl, ⟨rfl, rfl, rfl⟩ | ⟨g, o, cur, rfl, hg, hnc, hcs, hcell⟩⟩ := h
  · obtain rfl : n = 0 := by simpa using hxl.symm
    by_cases hm : s.size = 0
    · have hn : strCells s = [] := List.eq_nil_of_length_eq_zero (by rw [strCells_length]; exact hm)
      have hf := run_firstCells_string (P := P) w 1 s
      rw [hm] at hf
      refine ⟨none, 0, w, ?_, by rw [hm, hn]; exact seg_nil w e, Step.refl _ _, .inl rfl⟩
      simp [Builtin.append_, run_underlying ht, run_underlying hu, sizeOf, typeInfo, hi, hs1, Builtin.lenOf, hm, hf]
    · have hr := run_append_nil_string (P := P) w t u ty e i (.int .u8 0) ht hu hi hz s (by omega) (by omega) (by rw [hby]; omega)
      have hgr := grown 0 (by omega)
      simp only [Nat.zero_add, List.nil_append, Array.empty_append] at hgr ⊢
      have e1 : (s.data.map fun b => Value.int .u8 b.toNat) = (strCells s).toArray := by
        apply Array.ext'
        simp [strCells]
      rw [e1] at hr
      exact ⟨_, _, _, hr, hgr, (Step.refl _ _).drew.alloc _, .inr ⟨_, rfl, Nat.le_refl _⟩⟩
  · by_cases hroom : n + s.size ≤ c
    · have hf := run_firstCells_string (P := P) w 1 s
      have hst := run_storeCells_at P g (o + n) e (strCells s) 0 cur w hg (by rw [strCells_length]; omega) (strCells_oneCell s)
      simp only [Nat.add_zero, strCells_length] at hst
      have hadd : (⟨g, o, none⟩ : Addr).add (n * 1) = ⟨g, o + n, none⟩ := by
        unfold Addr.add
        by_cases hn : n = 0
        · subst hn; simp
        · simp [hn]
      have hl3 : (cur.toList.take (o + n)).length = o + n := by rw [List.length_take, Array.length_toList]; omega
      refine ⟨some ⟨g, o, none⟩, c, w.setRow g (cur.toList.take (o + n) ++ strCells s ++ cur.toList.drop (o + n + s.size)).toArray, ?_, ⟨hlen, .inr ⟨g, o, _, rfl, setRow_heap w g cur _ e _ hg, hroom, ?_, fun j u hj => ?_⟩⟩, ⟨rfl, rfl, rfl, by simp, fun k _ hk => setRow_other w g k _ (fun e => hk (by simp [blockOf, e]))⟩, .inl rfl⟩
      · simp only [Nat.mul_one] at hadd
        simp [Builtin.append_, run_underlying ht, run_underlying hu, sizeOf, typeInfo, hi, hs1, Builtin.lenOf, hroom, hf, hadd, hst]
      · simp only [List.size_toArray, List.length_append, hl3, List.length_drop, Array.length_toList, strCells_length]
        omega
      · rw [List.getElem?_toArray]
        rcases Nat.lt_or_ge j n with hjn | hjn
        · rw [List.getElem?_append_left (by omega)] at hj
          rw [List.append_assoc, List.getElem?_append_left (by omega), List.getElem?_take, if_pos (by omega), Array.getElem?_toList]
          exact hcell j u hj
        · rw [List.getElem?_append_right (by omega), hxl] at hj
          rw [List.append_assoc, List.getElem?_append_right (by omega), hl3, List.getElem?_append_left (by have := (List.getElem?_eq_some_iff.1 hj).1; omega), show o + j - (o + n) = j - n by omega]
          exact hj
    · have hr := run_append_grow_string (P := P) w t u ty e i (.int .u8 0) ht hu hi hz ⟨g, o, none⟩ n c xs (by rw [hs1]; omega) (fun j u hj => by
        have hadd : (⟨g, o, none⟩ : Addr).add j = ⟨g, o + j, none⟩ := by
          unfold Addr.add
          by_cases hn : j = 0
          · subst hn; simp
          · simp [hn]
        rw [hadd]
        simp [World.cell?, hg, hcell j u hj]) s (by omega) (by omega) (by rw [hby]; exact growslice_fits (by omega) (by omega))
      exact ⟨_, _, _, hr, grown c (by omega), (Step.refl _ _).drew.alloc _, .inr ⟨_, rfl, Nat.le_refl _⟩⟩

/-- The operation, for the walk. -/
theorem wpList_append_seg_string {ops : Array Oper} {rest : List Oper} {o : Oper} {a : Act} {Q : Exit → Act → World → Prop} (hgd : o.guard = none) (sl x : Operand) (t u : TypeId)
    (ho : o.op = .call { callee := .builtin .append, args := #[sl, x], argTypes := #[t, u] })
    (e : TypeId) (i : TypeInfo) (ht : P.underlying t = some (.slice e)) (hu : P.underlying u = some .string) (hi : P.info? e = some i) (hz : i.zero = some (.int .u8 0)) (hs1 : i.size = 1) (hby : i.bytes = 1)
    {A : Option Addr} {n c : Nat} {xs : List Value} (hs : a.eval sl = .slice A n c) (hseg : Seg w e A n c xs) (s : ByteArray) (hx : a.eval x = .string s) (hb : n + s.size ≤ 140737488355328)
    (h : ∀ A' c' w', Seg w' e A' (n + s.size) c' (xs ++ strCells s) → Step (fun k => blockOf A = some k) w w' → (blockOf A' = blockOf A ∨ ∃ k, blockOf A' = some k ∧ w.heap.size ≤ k) → wpList P ops Q rest (a.put o.dst (.slice A' (n + s.size) c')) w') : wpList P ops Q (o :: rest) a w := by
  refine wpList_plain hgd fun K hK => ?_
  obtain ⟨A', c', w', hr, h2, h3, h4⟩ := run_append_seg_string (P := P) w t u o.type e i ht hu hi hz hs1 hby hseg s hb
  unfold Oper.wp execOp
  simp only [ho, resolve, invoke, builtin, Sem.run_bind, Sem.run_pure, Result.andThen_ok, List.map_toArray, List.map_cons, List.map_nil, hs, hx, hr]
  exact hK _ _ (h A' c' w' h2 h3 h4)
end

section
variable {P : Program} (w : World)
/-- copy into a block that is known whole, from its head on. -/
theorem run_copy_seg (dT sT ty elem : TypeId) (hu : P.underlying dT = some (.slice elem)) (hs : (P.info? elem).map (·.size) = some 1) {g : Nat} {T : TypeId} {L : List Value} (hL : Blk w g T L) {dLen dCap : Nat} (hd : dLen = L.length)
    {e : TypeId} {A : Option Addr} {n c : Nat} {xs : List Value} (h : Seg w e A n c xs) (hn : n ≤ dLen) (h1 : ∀ v ∈ xs, v.oneCell' = true) :
    ∃ w', (Builtin.copy_ #[dT, sT] ty #[.slice (some ⟨g, 0, none⟩) dLen dCap, .slice A n c]).run P w = .ok (goInt n) w' ∧ Blk w' g T (xs ++ L.drop n) ∧ Step (· = g) w w' := by
  have hxl := h.len
  have hc : ∀ a, A = some a → ∀ j v, xs[j]? = some v → w.cell? (a.add j) = some v := by
    intro a ha j v hj
    obtain ⟨g', o', he, hc⟩ := h.cell hj
    rw [ha] at he
    cases he
    have hadd : (⟨g', o', none⟩ : Addr).add j = ⟨g', o' + j, none⟩ := by
      unfold Addr.add
      by_cases hn : j = 0
      · subst hn; simp
      · simp [hn]
    rw [hadd]; exact hc
  cases A with
  | none =>
    obtain ⟨_, ⟨_, rfl, rfl⟩ | ⟨g', o', cur, he, _⟩⟩ := h
    · obtain rfl : n = 0 := by simpa using hxl.symm
      exact ⟨w, run_copy_nil (P := P) w dT sT ty elem _ _ _ hu (by cases hq : P.info? elem <;> simp [hq] at hs ⊢), by simpa using hL, Step.refl _ _⟩
    · cases he
  | some a =>
    have hfit : 0 + xs.length ≤ L.toArray.size := by simp only [List.size_toArray]; omega
    have hmin : Nat.min n dLen = n := Nat.min_eq_left hn
    have hr := run_copy_row (P := P) w dT sT ty elem g 0 dLen dCap a n c L.toArray T xs hu hs hL (by rw [hmin, hxl]) (hc a rfl) hfit h1
    rw [hxl] at hr
    refine ⟨_, hr, ?_, ⟨rfl, rfl, rfl, by simp, fun k _ hk => setRow_other w g k _ (fun e => hk e)⟩⟩
    have hh := setRow_heap w g L.toArray (List.take 0 L.toArray.toList ++ xs ++ List.drop (0 + n) L.toArray.toList).toArray T (0, 0) hL
    simpa [Blk] using hh

theorem wpList_copy_seg {ops : Array Oper} {rest : List Oper} {o : Oper} {a : Act} {Q : Exit → Act → World → Prop} (hgd : o.guard = none) (d s : Operand) (dT sT elem : TypeId)
    (ho : o.op = .call { callee := .builtin .copy, args := #[d, s], argTypes := #[dT, sT] }) (hu : P.underlying dT = some (.slice elem)) (hsz : (P.info? elem).map (·.size) = some 1)
    {g : Nat} {T : TypeId} {L : List Value} (hL : Blk w g T L) {dLen dCap : Nat} (hdl : dLen = L.length) {e : TypeId} {A : Option Addr} {n c : Nat} {xs : List Value} (hseg : Seg w e A n c xs) (hn : n ≤ dLen) (h1 : ∀ v ∈ xs, v.oneCell' = true)
    (hd : a.eval d = .slice (some ⟨g, 0, none⟩) dLen dCap) (hs : a.eval s = .slice A n c)
    (h : ∀ w', Blk w' g T (xs ++ L.drop n) → Step (· = g) w w' → wpList P ops Q rest (a.put o.dst (goInt n)) w') : wpList P ops Q (o :: rest) a w := by
  refine wpList_plain hgd fun K hK => ?_
  obtain ⟨w', hr, h2, h3⟩ := run_copy_seg (P := P) w dT sT o.type elem hu hsz hL (dCap := dCap) hdl hseg hn h1
  unfold Oper.wp execOp
  simp only [ho, resolve, invoke, builtin, Sem.run_bind, Sem.run_pure, Result.andThen_ok, List.map_toArray, List.map_cons, List.map_nil, hd, hs, hr]
  exact hK _ _ (h w' h2 h3)
end

section
variable {P : Program} (w : World)
/-- A whole row stored into a block that is known whole. -/
theorem store_row {g : Nat} {T : TypeId} {L cs : List Value} (h : Blk w g T L) (hl : cs.length = L.length) (h1 : ∀ v ∈ cs, v.oneCell' = true) :
    ∃ w', (storeCells ⟨g, 0, none⟩ cs).run P w = .ok () w' ∧ Blk w' g T cs ∧ Step (· = g) w w' := by
  have hst := run_storeCells_at P g 0 T cs 0 L.toArray w h (by simp [hl]) h1
  refine ⟨_, hst, ?_, ⟨rfl, rfl, rfl, by simp, fun k _ hk => setRow_other w g k _ (fun e => hk e)⟩⟩
  have hh := setRow_heap w g L.toArray (L.toArray.toList.take (0 + 0) ++ cs ++ L.toArray.toList.drop (0 + 0 + cs.length)).toArray T (0, 0) h
  simpa [Blk, hl] using hh

open Go.Lib in
/-- copy of a string's first bytes into a block that is known whole. -/
theorem run_copy_str (dT sT ty elem : TypeId) (hu : P.underlying dT = some (.slice elem)) (hs : (P.info? elem).map (·.size) = some 1) {g : Nat} {T : TypeId} {L : List Value} (hL : Blk w g T L) {dLen dCap : Nat} (hd : dLen = L.length) (s : ByteArray) :
    ∃ (w' : World) (n : Nat), (Builtin.copy_ #[dT, sT] ty #[.slice (some ⟨g, 0, none⟩) dLen dCap, .string s]).run P w = .ok (goInt n) w' ∧ Blk w' g T ((strCells s).take dLen ++ L.drop s.size) ∧ Step (· = g) w w' := by
  have hlen : ((strCells s).take (Nat.min s.size dLen)).length = Nat.min s.size dLen := by
    rw [List.length_take, strCells_length]
    exact Nat.min_eq_left (Nat.min_le_left _ _)
  have hml : Nat.min s.size dLen ≤ L.length := by rw [← hd]; exact Nat.min_le_right _ _
  have hst := run_storeCells_at P g 0 T ((strCells s).take (Nat.min s.size dLen)) 0 L.toArray w hL (by rw [hlen]; simpa using hml) (fun v hv => strCells_oneCell s v (List.mem_of_mem_take hv))
  rw [hlen] at hst
  simp only [Nat.add_zero, Nat.zero_add] at hst
  have e1 : (strCells s).take dLen ++ L.drop s.size = (strCells s).take (Nat.min s.size dLen) ++ L.drop (Nat.min s.size dLen) := by
    rcases Nat.le_total s.size dLen with h | h
    · rw [show Nat.min s.size dLen = s.size from Nat.min_eq_left h, List.take_of_length_le (by rw [strCells_length]; exact h), List.take_of_length_le (by rw [strCells_length]; exact Nat.le_refl _)]
    · rw [show Nat.min s.size dLen = dLen from Nat.min_eq_right h, List.drop_eq_nil_of_le (by omega), List.drop_eq_nil_of_le (by omega)]
  refine ⟨w.setRow g (L.toArray.toList.take 0 ++ (strCells s).take (Nat.min s.size dLen) ++ L.toArray.toList.drop (Nat.min s.size dLen)).toArray, Nat.min s.size dLen, ?_, ?_, ⟨rfl, rfl, rfl, by simp, fun k _ hk => setRow_other w g k _ (fun e => hk e)⟩⟩
  · cases hq : P.info? elem with
    | none => simp [hq] at hs
    | some i =>
      have htk : List.take (Nat.min s.size dLen) (List.map (fun b : UInt8 => Value.int IntKind.u8 (b.toNat : Int)) s.data.toList) = (strCells s).take (Nat.min s.size dLen) := rfl
      simp [Builtin.copy_, run_underlying hu, Builtin.lenOf, Builtin.firstCells, sizeOf, typeInfo, hq]
      rw [htk, hst]
      simp [Result.andThen]
  · rw [e1]
    have hh := setRow_heap w g L.toArray (L.toArray.toList.take 0 ++ (strCells s).take (Nat.min s.size dLen) ++ L.toArray.toList.drop (Nat.min s.size dLen)).toArray T (0, 0) hL
    simpa [Blk] using hh

open Go.Lib in
theorem wpList_copy_str {ops : Array Oper} {rest : List Oper} {o : Oper} {a : Act} {Q : Exit → Act → World → Prop} (hgd : o.guard = none) (d s : Operand) (dT sT elem : TypeId)
    (ho : o.op = .call { callee := .builtin .copy, args := #[d, s], argTypes := #[dT, sT] }) (hu : P.underlying dT = some (.slice elem)) (hsz : (P.info? elem).map (·.size) = some 1)
    {g : Nat} {T : TypeId} {L : List Value} (hL : Blk w g T L) {dLen dCap : Nat} (hdl : dLen = L.length) (t : ByteArray) (hd : a.eval d = .slice (some ⟨g, 0, none⟩) dLen dCap) (hs : a.eval s = .string t)
    (h : ∀ w' (n : Nat), Blk w' g T ((strCells t).take dLen ++ L.drop t.size) → Step (· = g) w w' → wpList P ops Q rest (a.put o.dst (goInt n)) w') : wpList P ops Q (o :: rest) a w := by
  refine wpList_plain hgd fun K hK => ?_
  obtain ⟨w', n, hr, h2, h3⟩ := run_copy_str (P := P) w dT sT o.type elem hu hsz hL (dCap := dCap) hdl t
  unfold Oper.wp execOp
  simp only [ho, resolve, invoke, builtin, Sem.run_bind, Sem.run_pure, Result.andThen_ok, List.map_toArray, List.map_cons, List.map_nil, hd, hs, hr]
  exact hK _ _ (h w' n h2 h3)
end
end Go.Proofs.YtdglbpjgadjnjaaDoor.Kit
