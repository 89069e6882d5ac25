/- Rows of elements of several cells each, held flat. Own work of this seat. -/
import Derived.Test.YtdglbpjgadjnjaaDoorKit
import Derived.Laws.Tables
namespace Go.Proofs.YtdglbpjgadjnjaaDoor.Kit
open Go.RowKit
set_option linter.unusedVariables false
set_option linter.unusedSimpArgs false

theorem addr_add' (g o k : Nat) : (⟨g, o, none⟩ : Addr).add k = ⟨g, o + k, none⟩ := by
  unfold Addr.add
  by_cases hk : k = 0
  · subst hk; simp
  · simp [hk]

/-- The slice .slice A n c (elements of type T, k cells each) begins at its block, and its cells are cs. -/
def FSeg (w : World) (T : TypeId) (k : Nat) (A : Option Addr) (n c : Nat) (cs : List Value) : Prop :=
  cs.length = n * k ∧ ((A = none ∧ c = 0 ∧ n = 0 ∧ cs = []) ∨ ∃ g cur, A = some ⟨g, 0, none⟩ ∧ w.heap[g]? = some (.cells cur T (0, 0)) ∧ n ≤ c ∧ c * k ≤ cur.size ∧ ∀ (j : Nat) (v : Value), cs[j]? = some v → cur[j]? = some v)
section
variable {w w' : World} {T : TypeId} {k : Nat} {A : Option Addr} {n c : Nat} {cs : List Value} {F : Nat → Prop}
theorem fseg_nil (w : World) (T : TypeId) (k : Nat) : FSeg w T k none 0 0 [] := ⟨by simp, .inl ⟨rfl, rfl, rfl, rfl⟩⟩
theorem FSeg.keep (h : FSeg w T k A n c cs) (hs : Step F w w') (hF : ∀ j, blockOf A = some j → ¬ F j) : FSeg w' T k A n c cs := by
  obtain ⟨h1, ⟨rfl, rfl, rfl, rfl⟩ | ⟨g, cur, rfl, h2, h3⟩⟩ := h
  · exact ⟨h1, .inl ⟨rfl, rfl, rfl, rfl⟩⟩
  · exact ⟨h1, .inr ⟨g, cur, rfl, (hs.block g (lt_of_block h2) (hF g rfl)).trans h2, h3⟩⟩
theorem FSeg.lt (h : FSeg w T k A n c cs) {j : Nat} (hj : blockOf A = some j) : j < w.heap.size := by
  obtain ⟨h1, ⟨rfl, rfl, rfl, rfl⟩ | ⟨g, cur, rfl, h2, h3⟩⟩ := h
  · cases hj
  · obtain rfl : g = j := Option.some.inj hj
    exact lt_of_block h2
theorem FSeg.le (h : FSeg w T k A n c cs) : n ≤ c := by
  obtain ⟨h1, ⟨rfl, rfl, rfl, rfl⟩ | ⟨g, cur, rfl, h2, h3, h4⟩⟩ := h
  · exact Nat.le_refl _
  · exact h3
theorem FSeg.isSome (h : FSeg w T k A n c cs) (hn : 0 < n) : ∃ g, A = some ⟨g, 0, none⟩ := by
  obtain ⟨h1, ⟨rfl, rfl, rfl, rfl⟩ | ⟨g, cur, rfl, h2, h3⟩⟩ := h
  · omega
  · exact ⟨g, rfl⟩
theorem FSeg.cell {g : Nat} (h : FSeg w T k (some ⟨g, 0, none⟩) n c cs) {j : Nat} {v : Value} (hj : cs[j]? = some v) : w.cell? ⟨g, j, none⟩ = some v := by
  obtain ⟨h1, ⟨h0, _⟩ | ⟨g', cur, e, h2, h3, h4, h5⟩⟩ := h
  · cases h0
  · obtain rfl : g = g' := by simpa using e
    simp [World.cell?, h2, h5 j v hj]
theorem FSeg.free {g : Nat} (h : FSeg w T k (some ⟨g, 0, none⟩) n c cs) (j : Nat) : w.frozen? ⟨g, j, none⟩ = false := by
  obtain ⟨h1, ⟨h0, _⟩ | ⟨g', cur, e, h2, h3, h4, h5⟩⟩ := h
  · cases h0
  · obtain rfl : g = g' := by simpa using e
    simp [World.frozen?, h2]
theorem FSeg.set {g : Nat} (h : FSeg w T k (some ⟨g, 0, none⟩) n c cs) (j : Nat) (v : Value) : FSeg (w.setCell ⟨g, j, none⟩ v) T k (some ⟨g, 0, none⟩) n c (cs.set j v) := by
  obtain ⟨h1, ⟨h0, _⟩ | ⟨g', cur, e, h2, h3, h4, h5⟩⟩ := h
  · cases h0
  · obtain rfl : g = g' := by simpa using e
    refine ⟨by rw [List.length_set]; exact h1, .inr ⟨g, cur.setIfInBounds j v, rfl, by simp [World.setCell, Array.getElem?_modify, h2], h3, by simpa using h4, fun i u hi => ?_⟩⟩
    rw [Array.getElem?_setIfInBounds]
    rw [List.getElem?_set] at hi
    by_cases e : j = i
    · subst e
      rw [if_pos rfl] at hi ⊢
      have hil : j < cs.length := by
        rcases Nat.lt_or_ge j cs.length with h | h
        · exact h
        · rw [if_neg (by omega)] at hi; cases hi
      rw [if_pos hil] at hi
      have hq := h5 j cs[j] (List.getElem?_eq_getElem hil)
      rw [if_pos (by exact (Array.getElem?_eq_some_iff.1 hq).1)]
      exact hi
    · rw [if_neg e] at hi ⊢
      exact h5 i u hi
/-- s[:m] -/
theorem FSeg.take (h : FSeg w T k A n c cs) {m : Nat} (hm : m ≤ n) : FSeg w T k A m c (cs.take (m * k)) := by
  obtain ⟨h1, ⟨rfl, rfl, rfl, rfl⟩ | ⟨g, cur, rfl, h2, h3, h4, h5⟩⟩ := h
  · obtain rfl : m = 0 := by omega
    exact ⟨by simp, .inl ⟨rfl, rfl, rfl, by simp⟩⟩
  · refine ⟨by rw [List.length_take, h1]; exact Nat.min_eq_left (Nat.mul_le_mul_right k hm), .inr ⟨g, cur, rfl, h2, by omega, h4, fun j v hj => ?_⟩⟩
    rw [List.getElem?_take] at hj
    split at hj
    · exact h5 j v hj
    · cases hj
end

section
variable {P : Program}
/-- append, of cells that stand in a row somewhere. -/
theorem run_append_flat (w : World) (t ty e : TypeId) (i : TypeInfo) (z : Value) (k by_ : Nat) (ht : P.underlying t = some (.slice e)) (hi : P.info? e = some i) (hz : i.zero = some z) (hzs : z.cells.size = k) (hs1 : i.size = k) (hby : i.bytes = by_) (hb48 : by_ ≤ 1000)
    {A : Option Addr} {n c m cB : Nat} {l r : List Value} (h : FSeg w e k A n c l) {aB : Addr} (hm : r.length = m * k) (hm0 : A = none → 0 < m) (hone : ∀ v ∈ r, v.oneCell' = true) (hcB : ∀ j v, r[j]? = some v → w.cell? (aB.add j) = some v) (hb : n + m ≤ 1000000) :
    ∃ A' c' w', (Builtin.append_ #[t, t] ty #[.slice A n c, .slice (some aB) m cB]).run P w = .ok (.slice A' (n + m) c') w' ∧ FSeg w' e k A' (n + m) c' (l ++ r) ∧ Step (fun k => blockOf A = some k) w w' ∧ (blockOf A' = blockOf A ∨ ∃ k, blockOf A' = some k ∧ w.heap.size ≤ k) := by
  have hbb : ∀ x : Nat, x ≤ 1000000 → x * by_ ≤ 1000000000 := fun x hx => Nat.le_trans (Nat.mul_le_mul hx hb48) (by omega)
  have hlen : (l ++ r).length = (n + m) * k := by rw [List.length_append, h.1, hm, Nat.add_mul]
  have grown : ∀ (old : Nat), old < n + m →
      FSeg (w.drew.alloc (.cells (l.toArray ++ r.toArray ++ Builtin.zeroCells z.cells (grownCap w (n + m) old e - (n + m))) e)) e k (some ⟨w.heap.size, 0, none⟩) (n + m) (grownCap w (n + m) old e) (l ++ r) := by
    intro old ho
    have hge := grownCap_ge w (n + m) old e
    refine ⟨hlen, .inr ⟨w.heap.size, _, rfl, heap_alloc_new w.drew _, hge, ?_, fun j u hj => ?_⟩⟩
    · simp only [Array.size_append, List.size_toArray, size_zeroCells, hzs, h.1, hm]
      rw [← Nat.add_mul, ← Nat.add_mul]
      exact Nat.mul_le_mul_right k (by omega)
    · rw [← Array.getElem?_toList]
      simp only [Array.toList_append, List.append_assoc]
      rw [← List.append_assoc, List.getElem?_append_left (List.getElem?_eq_some_iff.1 hj).1]
      exact hj
  obtain ⟨hxl, ⟨rfl, rfl, rfl, rfl⟩ | ⟨g, cur, rfl, hg, hnc, hcs, hcell⟩⟩ := h
  · have hm0' := hm0 rfl
    have hr := run_append_nil (P := P) w t ty e i z ht hi hz aB m cB r (by rw [hs1]; exact hm) hcB hm0' (by omega) (by rw [hby]; have := hbb m (by omega); omega)
    have hgr := grown 0 (by omega)
    simp only [Nat.zero_add, List.nil_append, Array.empty_append] at hgr ⊢
    exact ⟨_, _, _, hr, hgr, (Step.refl _ _).drew.alloc _, .inr ⟨_, rfl, Nat.le_refl _⟩⟩
  · by_cases hroom : n + m ≤ c
    · have hf := run_firstCells_some (P := P) w k m aB m cB r hm hcB
      have hnk : n * k + m * k ≤ cur.size := by
        rw [← Nat.add_mul]; exact Nat.le_trans (Nat.mul_le_mul_right k hroom) hcs
      have hst := run_storeCells_at P g (0 + n * k) e r 0 cur w hg (by omega) hone
      simp only [Nat.add_zero, Nat.zero_add] at hst
      have hadd := addr_add' g 0 (n * k)
      rw [Nat.zero_add] at hadd
      have hl3 : (cur.toList.take (n * k)).length = n * k := by rw [List.length_take, Array.length_toList]; omega
      refine ⟨some ⟨g, 0, none⟩, c, w.setRow g (cur.toList.take (n * k) ++ r ++ cur.toList.drop (n * k + r.length)).toArray, ?_, ⟨hlen, .inr ⟨g, _, rfl, setRow_heap w g cur _ e _ hg, hroom, ?_, fun j u hj => ?_⟩⟩, ⟨rfl, rfl, rfl, by simp, fun k _ hk => setRow_other w g k _ (fun e => hk (by simp [blockOf, e]))⟩, .inl rfl⟩
      · simp [Builtin.append_, run_underlying ht, sizeOf, typeInfo, hi, hs1, Builtin.lenOf, hroom, hf, hadd, hst]
      · simp only [List.size_toArray, List.length_append, hl3, List.length_drop, Array.length_toList]
        omega
      · rw [List.getElem?_toArray]
        rcases Nat.lt_or_ge j (n * k) with hjn | hjn
        · rw [List.getElem?_append_left (by omega)] at hj
          rw [List.append_assoc, List.getElem?_append_left (by omega), List.getElem?_take, if_pos (by omega), Array.getElem?_toList]
          exact hcell j u hj
        · rw [List.getElem?_append_right (by omega), hxl] at hj
          rw [List.append_assoc, List.getElem?_append_right (by omega), hl3, List.getElem?_append_left (by have := (List.getElem?_eq_some_iff.1 hj).1; omega)]
          exact hj
    · have hr := run_append_grow (P := P) w t ty e i z ht hi hz ⟨g, 0, none⟩ n c l (by rw [hs1]; exact hxl) (fun j u hj => by rw [addr_add', Nat.zero_add]; simp [World.cell?, hg, hcell j u hj]) aB m cB r (by rw [hs1]; exact hm) hcB (by omega) (by omega) (by rw [hby]; exact growslice_fits (by omega) (Nat.le_trans (hbb (n + m) hb) (by omega)))
      exact ⟨_, _, _, hr, grown c (by omega), (Step.refl _ _).drew.alloc _, .inr ⟨_, rfl, Nat.le_refl _⟩⟩

theorem wpList_append_flat (w : World) {ops : Array Oper} {rest : List Oper} {o : Oper} {a : Act} {Q : Exit → Act → World → Prop} (hgd : o.guard = none) (sl x : Operand) (t : TypeId)
    (ho : o.op = .call { callee := .builtin .append, args := #[sl, x], argTypes := #[t, t] })
    (e : TypeId) (i : TypeInfo) (z : Value) (k by_ : Nat) (ht : P.underlying t = some (.slice e)) (hi : P.info? e = some i) (hz : i.zero = some z) (hzs : z.cells.size = k) (hs1 : i.size = k) (hby : i.bytes = by_) (hb48 : by_ ≤ 1000)
    {A : Option Addr} {n c m cB : Nat} {l r : List Value} (hs : a.eval sl = .slice A n c) (h0 : FSeg w e k A n c l) {aB : Addr} (hx : a.eval x = .slice (some aB) m cB) (hm : r.length = m * k) (hm0 : A = none → 0 < m) (hone : ∀ v ∈ r, v.oneCell' = true) (hcB : ∀ j v, r[j]? = some v → w.cell? (aB.add j) = some v) (hb : n + m ≤ 1000000)
    (h : ∀ A' c' w', FSeg w' e k A' (n + m) c' (l ++ r) → Step (fun k => blockOf A = some k) w w' → (blockOf A' = blockOf A ∨ ∃ k, blockOf A' = some k ∧ w.heap.size ≤ k) → wpList P ops Q rest (a.put o.dst (.slice A' (n + m) c')) w') : wpList P ops Q (o :: rest) a w := by
  refine wpList_plain hgd fun K hK => ?_
  obtain ⟨A', c', w', hr, h2, h3, h4⟩ := run_append_flat (P := P) (cB := cB) w t o.type e i z k by_ ht hi hz hzs hs1 hby hb48 h0 hm hm0 hone hcB hb
  unfold Oper.wp execOp
  simp only [ho, resolve, invoke, builtin, Sem.run_bind, Sem.run_pure, Result.andThen_ok, List.map_toArray, List.map_cons, List.map_nil, hs, hx, hr]
  exact hK _ _ (h A' c' w' h2 h3 h4)

/-- clear(s[m:]), of a row that begins at its block. -/
theorem run_clear_tail {w : World} (t ty : TypeId) (e : TypeId) (z : Value) (k : Nat) (ht : P.underlying t = some (.slice e)) (hv : ∀ w, (zeroValue e).run P w = .ok z w) (hzs : z.cells.size = k) (hz1 : ∀ v ∈ z.cells.toList, v.oneCell' = true)
    {g n c m : Nat} {cs : List Value} (cB : Nat) (h : FSeg w e k (some ⟨g, 0, none⟩) n c cs) (hm : m < n) :
    ∃ w', (Builtin.clear_ #[t] ty #[.slice (some ⟨g, m * k, none⟩) (n - m) cB]).run P w = .ok (.tuple #[]) w' ∧ FSeg w' e k (some ⟨g, 0, none⟩) m c (cs.take (m * k)) ∧ Step (· = g) w w' := by
  obtain ⟨hl, ⟨h0, _⟩ | ⟨g', cur, e', hg, h3, h4, h5⟩⟩ := h
  · cases h0
  obtain rfl : g = g' := by simpa using e'
  have hzl : (Builtin.zeroCells z.cells (n - m)).toList.length = (n - m) * k := by rw [Array.length_toList, size_zeroCells, hzs]
  have hnm : m * k + (n - m) * k = n * k := by rw [← Nat.add_mul, Nat.add_sub_cancel' (by omega)]
  have hnc : n * k ≤ c * k := Nat.mul_le_mul_right k h3
  have hone : ∀ v ∈ (Builtin.zeroCells z.cells (n - m)).toList, v.oneCell' = true := by
    intro v hv
    have hv' : v ∈ Builtin.zeroCells z.cells (n - m) := by simpa using hv
    unfold Builtin.zeroCells at hv'
    obtain ⟨q, hq, rfl⟩ := Array.mem_map.1 hv'
    rw [Array.mem_range] at hq
    have hz0 : 0 < z.cells.size := by
      rcases Nat.eq_zero_or_pos z.cells.size with h | h
      · rw [h] at hq; omega
      · exact h
    have hlt := Nat.mod_lt q hz0
    rw [getElem!_pos z.cells _ hlt]
    exact hz1 _ (by simp)
  have hst := run_storeCells_at P g (m * k) e (Builtin.zeroCells z.cells (n - m)).toList 0 cur w hg (by rw [hzl]; omega) hone
  refine ⟨_, ?_, ⟨by rw [List.length_take, hl]; exact Nat.min_eq_left (by omega), .inr ⟨g, _, rfl, setRow_heap w g cur (cur.toList.take (m * k) ++ (Builtin.zeroCells z.cells (n - m)).toList ++ cur.toList.drop (m * k + (Builtin.zeroCells z.cells (n - m)).toList.length)).toArray e _ hg, by omega, ?_, fun j u hj => ?_⟩⟩, ⟨rfl, rfl, rfl, by simp, fun k _ hk => setRow_other w g k _ (fun e => hk e)⟩⟩
  · have hr : (storeCells ⟨g, m * k, none⟩ (Builtin.zeroCells z.cells (n - m)).toList).run P w = .ok () (w.setRow g (cur.toList.take (m * k) ++ (Builtin.zeroCells z.cells (n - m)).toList ++ cur.toList.drop (m * k + (Builtin.zeroCells z.cells (n - m)).toList.length)).toArray) := hst
    clear hst hone hzl hnm hnc
    obtain ⟨q, hq⟩ : ∃ q, n - m = q + 1 := ⟨n - m - 1, by omega⟩
    rw [hq] at hr ⊢
    simp [Builtin.clear_, run_underlying ht, hv]
    simpa using congrArg (fun r => r.andThen fun _ w => .ok (Value.tuple #[]) w) hr
  · simp only [List.size_toArray, List.length_append, List.length_take, List.length_drop, Array.length_toList, hzl, size_zeroCells, hzs]
    omega
  · rw [List.getElem?_toArray]
    rw [List.getElem?_take] at hj
    split at hj
    · rename_i hjm
      rw [List.append_assoc, List.getElem?_append_left (by rw [List.length_take, Array.length_toList]; omega), List.getElem?_take, if_pos hjm, Array.getElem?_toList]
      exact h5 j u hj
    · cases hj
end
section
variable {P : Program}
/-- A whole element is stored. -/
theorem wpList_store_flat {ops : Array Oper} {rest : List Oper} {o : Oper} {a : Act} {w : World} {Q : Exit → Act → World → Prop} (hgd : o.guard = none) (ty : TypeId) (x y : Operand) (ho : o.op = .store ty x y)
    {T : TypeId} {k g n c m : Nat} {cs vs : List Value} (hv : vs.length = k) (hi : (P.info? ty).map (·.size) = some k) (h1 : ∀ v ∈ vs, v.oneCell' = true) (h : FSeg w T k (some ⟨g, 0, none⟩) n c cs) (hm : m < n)
    (hx : a.eval x = .pointer (some ⟨g, m * k, none⟩)) (hy : a.eval y = .agg vs.toArray)
    (hK : ∀ w', FSeg w' T k (some ⟨g, 0, none⟩) n c (cs.take (m * k) ++ vs ++ cs.drop (m * k + k)) → Step (· = g) w w' → wpList P ops Q rest (a.put o.dst undef) w') : wpList P ops Q (o :: rest) a w := by
  obtain ⟨hl, ⟨h0, _⟩ | ⟨g', cur, e', hg, h3, h4, h5⟩⟩ := h
  · cases h0
  obtain rfl : g = g' := by simpa using e'
  have hmk : m * k + k ≤ n * k := by rw [← Nat.succ_mul]; exact Nat.mul_le_mul_right k hm
  have hnc : n * k ≤ c * k := Nat.mul_le_mul_right k h3
  have hst := run_storeCells_at P g (m * k) T vs 0 cur w hg (by omega) h1
  have hst' : (storeCells ⟨g, m * k, none⟩ vs).run P w = .ok () (w.setRow g (cur.toList.take (m * k) ++ vs ++ cur.toList.drop (m * k + k)).toArray) := by
    rw [hv] at hst; simpa using hst
  have hlt : (cur.toList.take (m * k)).length = m * k := by rw [List.length_take, Array.length_toList]; omega
  refine wpList_plain hgd fun K hK' => ?_
  have hnew := hK _ ⟨by simp only [List.length_append, List.length_take, List.length_drop]; omega, .inr ⟨g, _, rfl, setRow_heap w g cur (cur.toList.take (m * k) ++ vs ++ cur.toList.drop (m * k + k)).toArray T _ hg, h3, ?_, fun j u hj => ?_⟩⟩ ⟨rfl, rfl, rfl, by simp, fun k _ hk => setRow_other w g k _ (fun e => hk e)⟩
  · cases hq : P.info? ty with
    | none => simp [hq] at hi
    | some i =>
      have hs : i.size = k := by simpa [hq] using hi
      have hr : (storeVar ty ⟨g, m * k, none⟩ (.agg vs.toArray)).run P w = .ok () (w.setRow g (cur.toList.take (m * k) ++ vs ++ cur.toList.drop (m * k + k)).toArray) := by
        have hvs : vs.toArray.size = i.size := by simp [hs, hv]
        simp only [List.size_toArray] at hvs
        simp [storeVar, sizeOf, typeInfo, hq, Value.cells, hvs, hst']
      unfold Oper.wp execOp
      simp only [ho, hx, hy, Instr.storeAt, Instr.sureAddr, Sem.run_bind, Sem.run_pure, Result.andThen_ok, hr]
      exact hK' _ _ hnew
  · simp only [List.size_toArray, List.length_append, hlt, List.length_drop, Array.length_toList]
    omega
  · rw [List.getElem?_toArray]
    rcases Nat.lt_or_ge j (m * k) with hjm | hjm
    · rw [List.append_assoc, List.getElem?_append_left (by rw [List.length_take]; omega), List.getElem?_take, if_pos hjm] at hj
      rw [List.append_assoc, List.getElem?_append_left (by omega), List.getElem?_take, if_pos hjm, Array.getElem?_toList]
      exact h5 j u hj
    · have hlc : (cs.take (m * k)).length = m * k := by rw [List.length_take]; omega
      rw [List.append_assoc, List.getElem?_append_right (by omega), hlc] at hj
      rw [List.append_assoc, List.getElem?_append_right (by omega), hlt]
      rcases Nat.lt_or_ge (j - m * k) vs.length with hjv | hjv
      · rw [List.getElem?_append_left hjv] at hj ⊢
        exact hj
      · rw [List.getElem?_append_right hjv, List.getElem?_drop] at hj ⊢
        rw [Array.getElem?_toList]
        exact h5 _ _ hj
/-- A block that is known whole is stored over whole. -/
theorem wpList_store_blk {ops : Array Oper} {rest : List Oper} {o : Oper} {a : Act} {w : World} {Q : Exit → Act → World → Prop} (hgd : o.guard = none) (ty : TypeId) (x y : Operand) (ho : o.op = .store ty x y)
    {g : Nat} {T : TypeId} {cs vs : List Value} (h : Blk w g T cs) (hx : a.eval x = .pointer (some ⟨g, 0, none⟩)) (hy : a.eval y = .agg vs.toArray) (hi : (P.info? ty).map (·.size) = some vs.length) (hl : cs.length = vs.length) (h1 : ∀ v ∈ vs, v.oneCell' = true)
    (hK : ∀ w', Blk w' g T vs → Step (· = g) w w' → wpList P ops Q rest (a.put o.dst undef) w') : wpList P ops Q (o :: rest) a w := by
  refine wpList_store_row hgd ty x y ho g vs.toArray hx hy T cs.toArray h (by simpa using hi) (by simpa using hl) (by simpa using h1) (hK _ ?_ ⟨rfl, rfl, rfl, by simp, fun k _ hk => setRow_other w g k _ (fun e => hk e)⟩)
  exact setRow_heap w g cs.toArray vs.toArray T (0, 0) h
end
end Go.Proofs.YtdglbpjgadjnjaaDoor.Kit
