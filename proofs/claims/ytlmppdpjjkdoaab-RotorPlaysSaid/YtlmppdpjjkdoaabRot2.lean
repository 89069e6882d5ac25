/- rotor: slices.IndexFunc, DeleteFunc and Clone of entries whose names are all different, once. Own work of this seat. -/
import Derived.Test.YtlmppdpjjkdoaabRot1
namespace Go.Proofs.Ytlmppdpjjkdoaab.Rot
open Go.RowKit Go.Proofs.Ytlmppdpjjkdoaab.Kit Go.Proofs.Ytlmppdpjjkdoaab.PRotorPlays Go.Proofs.YtlmppdpjjkdoaabW.PrintWords Go.Proofs.YtlmppdpjjkdoaabW.PrintLast Go.Proofs.YtlmppdpjjkdoaabW.PrintMore
set_option linter.unusedVariables false
set_option linter.unusedSimpArgs false

theorem ERow.keep {w w' : World} {F : Nat → Prop} {A : Option Addr} {l : List (ByteArray × Int)} (h : ERow w A l) (hs : Step F w w') (hF : ∀ k, blockOf A = some k → ¬ F k) : ERow w' A l := by
  rcases h with h | ⟨g, o, rfl, h⟩
  · exact .inl h
  · refine .inr ⟨g, o, rfl, fun i e hi => ?_⟩
    obtain ⟨h1, h2⟩ := h i e hi
    have hlt : g < w.heap.size := by
      rcases Nat.lt_or_ge g w.heap.size with h' | h'
      · exact h'
      · simp [World.cell?, Array.getElem?_eq_none h'] at h1
    have hb := hs.block g hlt (hF g rfl)
    exact ⟨by rw [World.cell?_of_block (w := w) (w' := w') hb]; exact h1, by rw [World.cell?_of_block (w := w) (w' := w') hb]; exact h2⟩

set_option maxRecDepth 100000 in
set_option maxHeartbeats 1000000 in
theorem index_calls {w : World} {A : Option Addr} {c : Nat} {l : List (ByteArray × Int)} {v b N : Nat} {g : ByteArray → Bool} (hA : ERow w A l) (hAb : ∀ k, blockOf A = some k → k ≠ b) (hv : Blk w v 91 [.map (some b)]) (hm : MSet w b N g) (hne : v ≠ b)
    (hg : ∀ e ∈ l, g e.1 = false) (hnd : (l.map Prod.fst).Nodup) (hsh : Short l) (hN : N + l.length ≤ 100000) :
    Calls Try.prog 51 #[.slice A l.length c, .func (.func 49) #[] #[.pointer (some ⟨v, 0, none⟩)]] w fun e w' => e = .returned (.int .i64 (-1)) ∧ Step (· = b) w w' := by
  go_enter Try.func51, Try.ntmps51
  go_wp2
  go_loopw [8] (fun v8 wr => ∃ (i : Nat) (gi : ByteArray → Bool), i ≤ l.length ∧ v8 = .int .i64 (i : Int) ∧ MSet wr b (N + i) gi ∧ (∀ e ∈ l.drop i, gi e.1 = false) ∧ Step (· = b) w wr) (fun v _ => l.length - (intOf v).toNat)
  case atStart => exact ⟨0, g, by omega, rfl, hm, by simpa using hg, Step.refl _ _⟩
  case round =>
    obtain ⟨i, gi, hi, rfl, hmi, hgi, hS⟩ := hrel
    by_cases hlt : i < l.length
    · have hlt' : (i : Int) < (l.length : Int) := by omega
      have hA' := hA.keep hS hAb
      rcases hA' with h0 | ⟨gb, o, rfl, hcell⟩
      · subst h0; simp at hlt
      · obtain ⟨h1, h2⟩ := hcell i l[i] (List.getElem?_eq_getElem hlt)
        have hdr : l.drop i = l[i] :: l.drop (i + 1) := List.drop_eq_getElem_cons hlt
        have hgf := hgi l[i] (by rw [hdr]; exact List.mem_cons_self)
        have hs := hsh l[i] (List.getElem_mem hlt)
        have hnx : ∀ e ∈ l.drop (i + 1), (decide (e.1 = (l[i]).1) || gi e.1) = false := by
          intro e he
          have hn : ((l.drop i).map Prod.fst).Nodup := by
            rw [List.map_drop]; exact hnd.sublist (List.drop_sublist _ _)
          rw [hdr, List.map_cons, List.nodup_cons] at hn
          have : e.1 ≠ (l[i]).1 := fun h => hn.1 (h ▸ List.mem_map_of_mem he)
          simp [this, hgi e (by rw [hdr]; exact List.mem_cons_of_mem _ he)]
        have HD := del_calls (hv.keep hS hne) hmi hne (by omega) l[i] hs
        rw [hgf] at HD
        generalize hle : l[i] = e at *
        obtain ⟨s, z⟩ := e
        go_wp2_with (go_at_call 49; refine HD.mono ?_; rintro e1 w1 ⟨rfl, hm1, hs1⟩)
        exact ⟨⟨i + 1, _, by omega, by go_num, by rw [← Nat.add_assoc]; exact hm1, hnx, hS.same hs1⟩, by simp [intOf]; omega⟩
    · obtain rfl : i = l.length := by omega
      go_wp2
      go_ret
      exact ⟨rfl, hS⟩

set_option maxRecDepth 100000 in
set_option maxHeartbeats 1000000 in
theorem delete_calls {w : World} {A : Option Addr} {c : Nat} {l : List (ByteArray × Int)} {v b N : Nat} {g : ByteArray → Bool} (hA : ERow w A l) (hAb : ∀ k, blockOf A = some k → k ≠ b) (hv : Blk w v 91 [.map (some b)]) (hm : MSet w b N g) (hne : v ≠ b)
    (hg : ∀ e ∈ l, g e.1 = false) (hnd : (l.map Prod.fst).Nodup) (hsh : Short l) (hN : N + l.length ≤ 100000) :
    Calls Try.prog 47 #[.slice A l.length c, .func (.func 49) #[] #[.pointer (some ⟨v, 0, none⟩)]] w fun e w' => e = .returned (.slice A l.length c) ∧ Step (· = b) w w' := by
  have HI := index_calls (c := c) hA hAb hv hm hne hg hnd hsh hN
  generalize l.length = n at *
  go_enter Try.func47, Try.ntmps47
  go_wp2_with (go_at_call 51; refine HI.mono ?_; rintro e1 w1 ⟨rfl, hs1⟩)
  go_ret
  exact ⟨rfl, hs1⟩

/-- The cells of a copy. -/
theorem ecells_get : ∀ (l : List (ByteArray × Int)) (i : Nat) (e : ByteArray × Int), l[i]? = some e → (ecells l)[i * 2]? = some (.string e.1) ∧ (ecells l)[i * 2 + 1]? = some (.int .i64 e.2)
  | [], i, e, h => by simp at h
  | x :: r, 0, e, h => by
    obtain rfl : x = e := by simpa using h
    simp [ecells]
  | x :: r, i + 1, e, h => by
    have := ecells_get r i e (by simpa using h)
    have e1 : (i + 1) * 2 = i * 2 + 2 := by omega
    rw [e1]
    simpa [ecells] using this
theorem ecells_length (l : List (ByteArray × Int)) : (ecells l).length = l.length * 2 := by
  induction l with
  | nil => rfl
  | cons x r ih => simp only [ecells, List.flatMap_cons, List.length_append, List.length_cons, List.length_nil] at ih ⊢; omega
theorem ecells_one (l : List (ByteArray × Int)) : ∀ v ∈ ecells l, v.oneCell' = true := by
  intro v hv
  obtain ⟨e, _, he⟩ := List.mem_flatMap.1 hv
  rcases List.mem_cons.1 he with rfl | he
  · rfl
  · obtain rfl := List.mem_singleton.1 he; rfl
theorem erow_cells {w : World} {g o : Nat} {l : List (ByteArray × Int)} (h : ∀ i e, l[i]? = some e → w.cell? ⟨g, o + i * 2, none⟩ = some (.string e.1) ∧ w.cell? ⟨g, o + i * 2 + 1, none⟩ = some (.int .i64 e.2)) :
    ∀ j v, (ecells l)[j]? = some v → w.cell? ((⟨g, o, none⟩ : Addr).add j) = some v := by
  intro j v hj
  rw [addr_add]
  have hjl := (List.getElem?_eq_some_iff.1 hj).1
  rw [ecells_length] at hjl
  obtain ⟨h1, h2⟩ := ecells_get l (j / 2) l[j / 2] (List.getElem?_eq_getElem (by omega))
  obtain ⟨c1, c2⟩ := h (j / 2) l[j / 2] (List.getElem?_eq_getElem (by omega))
  rcases Nat.mod_two_eq_zero_or_one j with hm | hm
  · rw [show j / 2 * 2 = j by omega] at h1 c1
    rw [c1, ← h1, hj]
  · rw [show j / 2 * 2 + 1 = j by omega] at h2
    rw [show o + j / 2 * 2 + 1 = o + j by omega] at c2
    rw [c2, ← h2, hj]
/-- A block whose first cells are those of l. -/
theorem erow_block {w : World} {g : Nat} {l : List (ByteArray × Int)} {cur : Array Value} {T : TypeId} (hg : w.heap[g]? = some (.cells cur T (0, 0))) (h : ∀ (j : Nat) (v : Value), (ecells l)[j]? = some v → cur[j]? = some v) : ERow w (some ⟨g, 0, none⟩) l := by
  refine .inr ⟨g, 0, rfl, fun i e hi => ?_⟩
  obtain ⟨h1, h2⟩ := ecells_get l i e hi
  have c1 := h _ _ h1
  have c2 := h _ _ h2
  exact ⟨by simp [World.cell?, hg, c1], by simp [World.cell?, hg, c2]⟩

/-- A row of entries of the call's own, beginning at its block. -/
def ESeg (w : World) (T : TypeId) (A : Option Addr) (n c : Nat) (l : List (ByteArray × Int)) : Prop :=
  l.length = n ∧ ((A = none ∧ c = 0 ∧ l = []) ∨ ∃ g cur, A = some ⟨g, 0, none⟩ ∧ w.heap[g]? = some (.cells cur T (0, 0)) ∧ n ≤ c ∧ c * 2 ≤ cur.size ∧ ∀ (j : Nat) (v : Value), (ecells l)[j]? = some v → cur[j]? = some v)
theorem eseg_nil (w : World) (T : TypeId) : ESeg w T none 0 0 [] := ⟨rfl, .inl ⟨rfl, rfl, rfl⟩⟩
theorem ESeg.keep {w w' : World} {F : Nat → Prop} {T : TypeId} {A : Option Addr} {n c : Nat} {l : List (ByteArray × Int)} (h : ESeg w T A n c l) (hs : Step F w w') (hF : ∀ k, blockOf A = some k → ¬ F k) : ESeg w' T A n c l := by
  obtain ⟨h1, ⟨rfl, rfl, rfl⟩ | ⟨g, cur, rfl, h2, h3⟩⟩ := h
  · exact ⟨h1, .inl ⟨rfl, rfl, rfl⟩⟩
  · exact ⟨h1, .inr ⟨g, cur, rfl, (hs.block g (lt_of_block h2) (hF g rfl)).trans h2, h3⟩⟩
theorem ESeg.row {w : World} {T : TypeId} {A : Option Addr} {n c : Nat} {l : List (ByteArray × Int)} (h : ESeg w T A n c l) : ERow w A l := by
  obtain ⟨h1, ⟨rfl, rfl, rfl⟩ | ⟨g, cur, rfl, h2, h3, h4, h5⟩⟩ := h
  · exact .inl rfl
  · exact erow_block h2 h5
theorem ESeg.lt {w : World} {T : TypeId} {A : Option Addr} {n c : Nat} {l : List (ByteArray × Int)} (h : ESeg w T A n c l) {k : Nat} (hk : blockOf A = some k) : k < w.heap.size := by
  obtain ⟨h1, ⟨rfl, rfl, rfl⟩ | ⟨g, cur, rfl, h2, h3⟩⟩ := h
  · cases hk
  · obtain rfl : g = k := Option.some.inj hk
    exact lt_of_block h2
theorem ecells_append (l r : List (ByteArray × Int)) : ecells (l ++ r) = ecells l ++ ecells r := by simp [ecells]

section
variable {P : Program}
theorem run_append_ent (w : World) (t ty e : TypeId) (i : TypeInfo) (z : Value) (ht : P.underlying t = some (.slice e)) (hi : P.info? e = some i) (hz : i.zero = some z) (hzs : z.cells.size = 2) (hs1 : i.size = 2) (hby : i.bytes = 24)
    {A : Option Addr} {n c m cB : Nat} {l r : List (ByteArray × Int)} (h : ESeg w e A n c l) {aB : Addr} (hm : r.length = m) (hm0 : 0 < m) (hcB : ∀ j v, (ecells r)[j]? = some v → w.cell? (aB.add j) = some v) (hb : n + m ≤ 1000000) :
    ∃ A' c' w', (Builtin.append_ #[t, t] ty #[.slice A n c, .slice (some aB) m cB]).run P w = .ok (.slice A' (n + m) c') w' ∧ ESeg w' e A' (n + m) c' (l ++ r) ∧ Step (fun k => blockOf A = some k) w w' ∧ (blockOf A' = blockOf A ∨ ∃ k, blockOf A' = some k ∧ w.heap.size ≤ k) := by
  have hrl : (ecells r).length = m * 2 := by rw [ecells_length, hm]
  have hlen : (l ++ r).length = n + m := by rw [List.length_append, h.1, hm]
  have grown : ∀ (old : Nat), old < n + m →
      ESeg (w.drew.alloc (.cells ((ecells l).toArray ++ (ecells r).toArray ++ Builtin.zeroCells z.cells (grownCap w (n + m) old e - (n + m))) e)) e (some ⟨w.heap.size, 0, none⟩) (n + m) (grownCap w (n + m) old e) (l ++ r) := by
    intro old ho
    have hge := grownCap_ge w (n + m) old e
    have hll : (ecells l).length = n * 2 := by rw [ecells_length, h.1]
    refine ⟨hlen, .inr ⟨w.heap.size, _, rfl, heap_alloc_new w.drew _, hge, ?_, fun j u hj => ?_⟩⟩
    · simp only [Array.size_append, List.size_toArray, size_zeroCells, hzs, hll, hrl]
      omega
    · rw [ecells_append] at hj
      rw [← Array.getElem?_toList]
      simp only [Array.toList_append, List.append_assoc]
      rw [← List.append_assoc, List.getElem?_append_left (List.getElem?_eq_some_iff.1 hj).1]
      exact hj
  obtain ⟨hxl, ⟨rfl, rfl, rfl⟩ | ⟨g, cur, rfl, hg, hnc, hcs, hcell⟩⟩ := h
  · obtain rfl : n = 0 := by simpa using hxl.symm
    have hr := run_append_nil (P := P) w t ty e i z ht hi hz aB m cB (ecells r) (by rw [hs1]; omega) hcB hm0 (by omega) (by rw [hby]; omega)
    have hgr := grown 0 (by omega)
    simp only [Nat.zero_add, List.nil_append, Array.empty_append, ecells, List.flatMap_nil] at hgr ⊢
    exact ⟨_, _, _, hr, hgr, (Step.refl _ _).drew.alloc _, .inr ⟨_, rfl, Nat.le_refl _⟩⟩
  · have hll : (ecells l).length = n * 2 := by rw [ecells_length, hxl]
    by_cases hroom : n + m ≤ c
    · have hf := run_firstCells_some (P := P) w 2 m aB m cB (ecells r) hrl hcB
      have hst := run_storeCells_at P g (0 + n * 2) e (ecells r) 0 cur w hg (by omega) (ecells_one r)
      simp only [Nat.add_zero, Nat.zero_add] at hst
      have hadd := addr_add g 0 (n * 2)
      rw [Nat.zero_add] at hadd
      have hl3 : (cur.toList.take (n * 2)).length = n * 2 := by rw [List.length_take, Array.length_toList]; omega
      refine ⟨some ⟨g, 0, none⟩, c, w.setRow g (cur.toList.take (n * 2) ++ ecells r ++ cur.toList.drop (n * 2 + (ecells r).length)).toArray, ?_, ⟨hlen, .inr ⟨g, _, rfl, setRow_heap w g cur _ e _ hg, hroom, ?_, fun j u hj => ?_⟩⟩, ⟨rfl, rfl, rfl, by simp, fun k _ hk => setRow_other w g k _ (fun e => hk (by simp [blockOf, e]))⟩, .inl rfl⟩
      · simp [Builtin.append_, run_underlying ht, sizeOf, typeInfo, hi, hs1, Builtin.lenOf, hroom, hf, hadd, hst]
      · simp only [List.size_toArray, List.length_append, hl3, List.length_drop, Array.length_toList]
        omega
      · rw [List.getElem?_toArray]
        rw [ecells_append] at hj
        rcases Nat.lt_or_ge j (n * 2) with hjn | hjn
        · rw [List.getElem?_append_left (by omega)] at hj
          rw [List.append_assoc, List.getElem?_append_left (by omega), List.getElem?_take, if_pos (by omega), Array.getElem?_toList]
          exact hcell j u hj
        · rw [List.getElem?_append_right (by omega), hll] at hj
          rw [List.append_assoc, List.getElem?_append_right (by omega), hl3, List.getElem?_append_left (by have := (List.getElem?_eq_some_iff.1 hj).1; omega)]
          exact hj
    · have hr := run_append_grow (P := P) w t ty e i z ht hi hz ⟨g, 0, none⟩ n c (ecells l) (by rw [hs1]; omega) (fun j u hj => by rw [addr_add, Nat.zero_add]; simp [World.cell?, hg, hcell j u hj]) aB m cB (ecells r) (by rw [hs1]; omega) hcB (by omega) (by omega) (by rw [hby]; exact growslice_fits (by omega) (by omega))
      exact ⟨_, _, _, hr, grown c (by omega), (Step.refl _ _).drew.alloc _, .inr ⟨_, rfl, Nat.le_refl _⟩⟩

theorem wpList_append_ent (w : World) {ops : Array Oper} {rest : List Oper} {o : Oper} {a : Act} {Q : Exit → Act → World → Prop} (hgd : o.guard = none) (sl x : Operand) (t : TypeId)
    (ho : o.op = .call { callee := .builtin .append, args := #[sl, x], argTypes := #[t, t] })
    (e : TypeId) (i : TypeInfo) (z : Value) (ht : P.underlying t = some (.slice e)) (hi : P.info? e = some i) (hz : i.zero = some z) (hzs : z.cells.size = 2) (hs1 : i.size = 2) (hby : i.bytes = 24)
    {A : Option Addr} {n c m cB : Nat} {l r : List (ByteArray × Int)} (hs : a.eval sl = .slice A n c) (h0 : ESeg w e A n c l) {aB : Addr} (hx : a.eval x = .slice (some aB) m cB) (hm : r.length = m) (hm0 : 0 < m) (hcB : ∀ j v, (ecells r)[j]? = some v → w.cell? (aB.add j) = some v) (hb : n + m ≤ 1000000)
    (h : ∀ A' c' w', ESeg w' e A' (n + m) c' (l ++ r) → Step (fun k => blockOf A = some k) w w' → (blockOf A' = blockOf A ∨ ∃ k, blockOf A' = some k ∧ w.heap.size ≤ k) → wpList P ops Q rest (a.put o.dst (.slice A' (n + m) c')) w') : wpList P ops Q (o :: rest) a w := by
  refine wpList_plain hgd fun K hK => ?_
  obtain ⟨A', c', w', hr, h2, h3, h4⟩ := run_append_ent (P := P) (cB := cB) w t o.type e i z ht hi hz hzs hs1 hby h0 hm hm0 hcB hb
  unfold Oper.wp execOp
  simp only [ho, resolve, invoke, builtin, Sem.run_bind, Sem.run_pure, Result.andThen_ok, List.map_toArray, List.map_cons, List.map_nil, hs, hx, hr]
  exact hK _ _ (h A' c' w' h2 h3 h4)
end

set_option maxRecDepth 100000 in
set_option maxHeartbeats 1000000 in
theorem clone_calls {w : World} {A : Option Addr} {c : Nat} {l : List (ByteArray × Int)} (hA : ERow w A l) (hl0 : l ≠ []) (hl : l.length ≤ 1000) :
    Calls Try.prog 48 #[.slice A l.length c] w fun e w' => ∃ A' c', e = .returned (.slice A' l.length c') ∧ ERow w' A' l ∧ (∀ k, blockOf A' = some k → w.heap.size ≤ k) ∧ Below w.heap.size w w' := by
  obtain ⟨i0, hi0, hp⟩ : ∃ i, Try.prog.info? 67 = some i ∧ (i.zero, i.size, i.bytes) = (some (.agg #[.string ⟨#[]⟩, .int .i64 0]), 2, 24) := by
    exact Option.map_eq_some_iff.1 (by kernel_rfl : (Try.prog.info? 67).map (fun i => (i.zero, i.size, i.bytes)) = some (some (.agg #[.string ⟨#[]⟩, .int .i64 0]), 2, 24))
  simp only [Prod.mk.injEq] at hp
  obtain ⟨hz0, hs0, hy0⟩ := hp
  rcases hA with h0 | ⟨g, o, rfl, hcell⟩
  · exact absurd h0 hl0
  · have hn0 : 0 < l.length := List.length_pos_iff.2 hl0
    have hnil := Lib.run_eql_slice_nil (P := Try.prog) w 74 67 (some ⟨g, o, none⟩) l.length c 0 0 Try.underlying74
    go_enter Try.func48, Try.ntmps48
    have hE0 : ESeg (w.alloc (.cells #[] 67)) 67 (some ⟨w.heap.size, 0, none⟩) 0 0 [] := ⟨rfl, .inr ⟨w.heap.size, #[], rfl, heap_alloc_new w _, by omega, by simp, fun j v hj => by simp [ecells] at hj⟩⟩
    go_wp2_with (at_builtin; refine wpList_append_ent _ rfl (.tmp 5) (.tmp 6) 74 rfl 67 i0 _ Try.underlying74 hi0 hz0 rfl hs0 hy0 rfl hE0 rfl rfl hn0 (erow_cells (fun i e hi => by obtain ⟨h1, h2⟩ := hcell i e hi; exact ⟨Lib.cell?_alloc_some _ h1, Lib.cell?_alloc_some _ h2⟩)) (by omega) ?_; intro A2 c2 w2 hE2 hs2 hat2)
    go_ret
    have e1 : (w.alloc (.cells #[] 67)).heap.size = w.heap.size + 1 := by show (w.heap.push _).size = _; simp
    refine ⟨A2, c2, rfl, by simpa using hE2.row, fun k hk => ?_, ?_⟩
    · rcases hat2 with hat2 | ⟨j, hj, hjl⟩
      · rw [hk] at hat2
        have : k = w.heap.size := Option.some.inj hat2
        omega
      · obtain rfl : j = k := Option.some.inj (hj.symm.trans hk)
        omega
    · exact (((Step.alloc (Step.refl (fun k => w.heap.size ≤ k) w) _).same (hs2.mono (G := fun k => w.heap.size ≤ k) (fun j _ e => by have : w.heap.size = j := Option.some.inj e; omega)))).below (Nat.le_refl _) (fun k h => h)

set_option maxRecDepth 100000 in
set_option maxHeartbeats 1000000 in
theorem once_calls {w : World} {A : Option Addr} {c : Nat} {l : List (ByteArray × Int)} (hA : ERow w A l) (hl0 : l ≠ []) (hnd : (l.map Prod.fst).Nodup) (hsh : Short l) (hl : l.length ≤ 1000) :
    Calls Try.prog 37 #[.slice A l.length c] w fun e w' => ∃ A' c', e = .returned (.slice A' l.length c') ∧ ERow w' A' l ∧ (∀ k, blockOf A' = some k → w.heap.size ≤ k) ∧ Below w.heap.size w w' := by
  have hmm := @run_makeMap Try.prog
  go_enter Try.func37, Try.ntmps37
  go_upto_region 2 with (fail)
  have e1 : (w.alloc (.map #[] 0)).heap.size = w.heap.size + 1 := by show (w.heap.push _).size = _; simp
  have hv := blk_new (w.alloc (.map #[] 0)) [.map (some w.heap.size)] 91
  rw [e1] at hv
  have hm := (mset_new w).keep (Step.alloc (Step.refl (fun _ => False) _) (.cells #[Value.map (some w.heap.size)] 91)) (fun h => h)
  have hs : Step (fun _ => False) w ((w.alloc (.map #[] 0)).alloc (.cells #[Value.map (some w.heap.size)] 91)) := ((Step.refl _ _).alloc _).alloc _
  have hvl := hv.lt
  have hC := fun w1 (h : Step (fun _ => False) w w1) => clone_calls (c := c) (hA.keep h (fun _ _ h => h)) hl0 hl
  have HC := hC _ hs
  clear hC
  generalize ((w.alloc (Obj.map #[] 0)).alloc (Obj.cells #[Value.map (some w.heap.size)] 91)) = w1 at *
  go_wp2_with (first | (go_at_call 48; refine HC.mono ?_; rintro e2 w2 ⟨A2, c2, rfl, hA2, hf2, hb2⟩) | (go_at_call 47; refine (delete_calls hA2 (fun k hk => by have := hf2 k hk; omega) (hv.keep (Step.of_below (F := fun _ => False) hb2) (fun h => h)) (hm.keep (Step.of_below (F := fun _ => False) hb2) (fun h => h)) (by omega) (fun _ _ => rfl) hnd hsh (by omega)).mono ?_; rintro e3 w3 ⟨rfl, hs3⟩))
  go_ret
  refine ⟨A2, c2, rfl, hA2.keep hs3 (fun k hk e => by have := hf2 k hk; have e' : k = w.heap.size := e; omega), fun k hk => by have := hf2 k hk; omega, ?_⟩
  have hs4 : Step (fun k => w.heap.size ≤ k) w w3 := ((hs.mono (fun _ _ h => h.elim)).same (Step.of_below hb2)).same (hs3.mono (G := fun k => w.heap.size ≤ k) (fun j _ e => by have e' : j = w.heap.size := e; omega))
  exact hs4.below (Nat.le_refl _) (fun k h => h)
end Go.Proofs.Ytlmppdpjjkdoaab.Rot
