/- append(xs, ys...) of rows that are known; clear. Own work of this seat; no condition. -/
import Derived.Test.YtlmppdpjjkdoaabKit
import Derived.Lib.SliceRun
namespace Go.Proofs.Ytlmppdpjjkdoaab.Kit
open Go.RowKit
set_option linter.unusedVariables false
set_option linter.unusedSimpArgs false

theorem addr_add (g o j : Nat) : (⟨g, o, none⟩ : Addr).add j = ⟨g, o + j, none⟩ := by
  unfold Addr.add
  by_cases hn : j = 0
  · subst hn; simp
  · simp [hn]

/-- The slice B's first m cells read as ys; nothing is said of what lies behind them. -/
def Src (w : World) (B : Option Addr) (m : Nat) (ys : List Value) : Prop :=
  ys.length = m ∧ ((B = none ∧ ys = []) ∨ ∃ a, B = some a ∧ ∀ j v, ys[j]? = some v → w.cell? (a.add j) = some v)
theorem Seg.src {w : World} {e : TypeId} {A : Option Addr} {n c : Nat} {xs : List Value} (h : Seg w e A n c xs) : Src w A n xs := by
  obtain ⟨hl, ⟨rfl, rfl, rfl⟩ | ⟨g, o, cur, rfl, hg, hnc, hcs, hcell⟩⟩ := h
  · exact ⟨hl, .inl ⟨rfl, rfl⟩⟩
  · exact ⟨hl, .inr ⟨_, rfl, fun j v hj => by rw [addr_add]; simp [World.cell?, hg, hcell j v hj]⟩⟩

section
variable {P : Program} (w : World)
/-- What a slice's first cells are. -/
theorem seg_firstCells {w : World} {e : TypeId} {A : Option Addr} {n c : Nat} {xs : List Value} (h : Seg w e A n c xs) : (Builtin.firstCells 1 n (.slice A n c)).run P w = .ok xs.toArray w := by
  obtain ⟨hl, ⟨rfl, rfl, rfl⟩ | ⟨g, o, cur, rfl, hg, hnc, hcs, hcell⟩⟩ := h
  · simp at hl; subst hl; exact run_firstCells_none (P := P) w 1 0 0 0
  · exact run_firstCells_some (P := P) w 1 n ⟨g, o, none⟩ n c xs (by omega) (fun j v hj => by rw [addr_add]; simp [World.cell?, hg, hcell j v hj])

theorem run_append_seg_seg (t ty e : TypeId) (i : TypeInfo) (z : Value) (ht : P.underlying t = some (.slice e)) (hi : P.info? e = some i) (hz : i.zero = some z) (hzs : z.cells.size = 1) (hs1 : i.size = 1) (hby : i.bytes = 8)
    {A B : Option Addr} {n c m cB : Nat} {xs ys : List Value} (h : Seg w e A n c xs) (hB : Src w B m ys) (h1 : ∀ v ∈ ys, v.oneCell' = true) (hb : (n + m) * 8 ≤ 140737488355328) :
    ∃ A' c' w', (Builtin.append_ #[t, t] ty #[.slice A n c, .slice B m cB]).run P w = .ok (.slice A' (n + m) c') w' ∧ Seg w' e A' (n + m) c' (xs ++ ys) ∧ Step (fun k => blockOf A = some k) w w' ∧ (blockOf A' = blockOf A ∨ ∃ k, blockOf A' = some k ∧ w.heap.size ≤ k) := by
  have hm := hB.1
  have hlen : (xs ++ ys).length = n + m := by rw [List.length_append, h.len, hm]
  have grown : ∀ (old : Nat), old < n + m →
      Seg (w.drew.alloc (.cells (xs.toArray ++ ys.toArray ++ Builtin.zeroCells z.cells (grownCap w (n + m) old e - (n + m))) e)) e (some ⟨w.heap.size, 0, none⟩) (n + m) (grownCap w (n + m) old e) (xs ++ ys) := by
    intro old ho
    have hge := grownCap_ge w (n + m) old e
    have hxl := h.len
    refine ⟨hlen, .inr ⟨w.heap.size, 0, _, rfl, heap_alloc_new w.drew _, hge, ?_, fun j u hj => ?_⟩⟩
    · simp only [Array.size_append, List.size_toArray, size_zeroCells, hzs, hxl, hm]
      omega
    · rw [Nat.zero_add, ← Array.getElem?_toList]
      simp only [Array.toList_append, List.append_assoc]
      rw [← List.append_assoc, List.getElem?_append_left (List.getElem?_eq_some_iff.1 hj).1]
      exact hj
  obtain ⟨hyl, hB'⟩ := hB
  rcases hB' with ⟨rfl, rfl⟩ | ⟨aB, rfl, hcB⟩
  · obtain rfl : m = 0 := by simpa using hyl.symm
    have hf := run_firstCells_none (P := P) w 1 0 0 cB
    refine ⟨A, c, w, ?_, by simpa using h, Step.refl _ _, .inl rfl⟩
    have hle := h.le
    obtain ⟨hxl, ⟨rfl, rfl, rfl⟩ | ⟨g, o, cur, rfl, hg, hnc, hcs, hcell⟩⟩ := h
    · obtain rfl : n = 0 := by simpa using hxl.symm
      simp [Builtin.append_, run_underlying ht, sizeOf, typeInfo, hi, hs1, Builtin.lenOf, hf]
    · simp [Builtin.append_, run_underlying ht, sizeOf, typeInfo, hi, hs1, Builtin.lenOf, hle, hf, storeCells]
  · obtain ⟨hxl, ⟨rfl, rfl, rfl⟩ | ⟨g, o, cur, rfl, hg, hnc, hcs, hcell⟩⟩ := h
    · obtain rfl : n = 0 := by simpa using hxl.symm
      by_cases hm0 : m = 0
      · subst hm0
        have hf := run_firstCells_some (P := P) w 1 0 aB 0 cB ys (by omega) hcB
        obtain rfl : ys = [] := List.eq_nil_of_length_eq_zero hyl
        refine ⟨none, 0, w, ?_, seg_nil w e, Step.refl _ _, .inl rfl⟩
        simp [Builtin.append_, run_underlying ht, sizeOf, typeInfo, hi, hs1, Builtin.lenOf, hf]
      · have hr := run_append_nil (P := P) w t ty e i z ht hi hz aB m cB ys (by rw [hs1]; omega) hcB (by omega) (by omega) (by rw [hby]; omega)
        have hgr := grown 0 (by omega)
        simp only [Nat.zero_add, List.nil_append, Array.empty_append] at hgr ⊢
        exact ⟨_, _, _, hr, hgr, (Step.refl _ _).drew.alloc _, .inr ⟨_, rfl, Nat.le_refl _⟩⟩
    · by_cases hroom : n + m ≤ c
      · have hf := run_firstCells_some (P := P) w 1 m aB m cB ys (by omega) hcB
        have hst := run_storeCells_at P g (o + n) e ys 0 cur w hg (by omega) h1
        simp only [Nat.add_zero] at hst
        have hadd := addr_add g o n
        have hl3 : (cur.toList.take (o + n)).length = o + n := by rw [List.length_take, Array.length_toList]; omega
        refine ⟨some ⟨g, o, none⟩, c, w.setRow g (cur.toList.take (o + n) ++ ys ++ cur.toList.drop (o + n + ys.length)).toArray, ?_, ⟨hlen, .inr ⟨g, o, _, rfl, setRow_heap w g cur _ e _ hg, hroom, ?_, fun j u hj => ?_⟩⟩, ⟨rfl, rfl, rfl, by simp, fun k _ hk => setRow_other w g k _ (fun e => hk (by simp [blockOf, e]))⟩, .inl rfl⟩
        · simp [Builtin.append_, run_underlying ht, sizeOf, typeInfo, hi, hs1, Builtin.lenOf, hroom, hf, hadd, hst]
        · simp only [List.size_toArray, List.length_append, hl3, List.length_drop, Array.length_toList]
          omega
        · rw [List.getElem?_toArray]
          rcases Nat.lt_or_ge j n with hjn | hjn
          · rw [List.getElem?_append_left (by omega)] at hj
            rw [List.append_assoc, List.getElem?_append_left (by omega), List.getElem?_take, if_pos (by omega), Array.getElem?_toList]
            exact hcell j u hj
          · rw [List.getElem?_append_right (by omega), hxl] at hj
            rw [List.append_assoc, List.getElem?_append_right (by omega), hl3, List.getElem?_append_left (by have := (List.getElem?_eq_some_iff.1 hj).1; omega), show o + j - (o + n) = j - n by omega]
            exact hj
      · have hr := run_append_grow (P := P) w t ty e i z ht hi hz ⟨g, o, none⟩ n c xs (by rw [hs1]; omega) (fun j u hj => by rw [addr_add]; simp [World.cell?, hg, hcell j u hj]) aB m cB ys (by rw [hs1]; omega) hcB (by omega) (by omega) (by rw [hby]; exact growslice_fits (by omega) (by omega))
        exact ⟨_, _, _, hr, grown c (by omega), (Step.refl _ _).drew.alloc _, .inr ⟨_, rfl, Nat.le_refl _⟩⟩

/-- The operation, for the walk. -/
theorem wpList_append_seg_seg {ops : Array Oper} {rest : List Oper} {o : Oper} {a : Act} {Q : Exit → Act → World → Prop} (hgd : o.guard = none) (sl x : Operand) (t : TypeId)
    (ho : o.op = .call { callee := .builtin .append, args := #[sl, x], argTypes := #[t, t] })
    (e : TypeId) (i : TypeInfo) (z : Value) (ht : P.underlying t = some (.slice e)) (hi : P.info? e = some i) (hz : i.zero = some z) (hzs : z.cells.size = 1) (hs1 : i.size = 1) (hby : i.bytes = 8)
    {A B : Option Addr} {n c m cB : Nat} {xs ys : List Value} (hs : a.eval sl = .slice A n c) (hseg : Seg w e A n c xs) (hx : a.eval x = .slice B m cB) (hB : Src w B m ys) (h1 : ∀ v ∈ ys, v.oneCell' = true) (hb : (n + m) * 8 ≤ 140737488355328)
    (h : ∀ A' c' w', Seg w' e A' (n + m) c' (xs ++ ys) → Step (fun k => blockOf A = some k) w w' → (blockOf A' = blockOf A ∨ ∃ k, blockOf A' = some k ∧ w.heap.size ≤ k) → wpList P ops Q rest (a.put o.dst (.slice A' (n + m) c')) w') : wpList P ops Q (o :: rest) a w := by
  refine wpList_plain hgd fun K hK => ?_
  obtain ⟨A', c', w', hr, h2, h3, h4⟩ := run_append_seg_seg (P := P) (cB := cB) w t o.type e i z ht hi hz hzs hs1 hby hseg hB h1 hb
  unfold Oper.wp execOp
  simp only [ho, resolve, invoke, builtin, Sem.run_bind, Sem.run_pure, Result.andThen_ok, List.map_toArray, List.map_cons, List.map_nil, hs, hx, hr]
  exact hK _ _ (h A' c' w' h2 h3 h4)
end
end Go.Proofs.Ytlmppdpjjkdoaab.Kit
