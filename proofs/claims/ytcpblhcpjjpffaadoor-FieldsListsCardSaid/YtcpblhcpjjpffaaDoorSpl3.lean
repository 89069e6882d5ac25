/- octet: List. Own work of this seat; no condition but on lengths. -/
import Derived.Test.YtcpblhcpjjpffaaDoorSpl2
import Derived.RangeFuncLeaves
import Derived.RangeFuncCalls
namespace Go.Proofs.YtcpblhcpjjpffaaDoor.Fie
open Go.RowKit Go.Proofs.YtcpblhcpjjpffaaDoor.Kit Go.Proofs.YtcpblhcpjjpffaaDoor.Oct Go.Proofs.YtcpblhcpjjpffaaDoor.Cut
set_option linter.unusedVariables false
set_option linter.unusedSimpArgs false

attribute [local go_sem] Oper.semAt_some
def keepB (ps : List ByteArray) : List ByteArray := (ps.map trim).filter (fun t => decide (0 < t.size))
theorem keepB_parts (s : ByteArray) : keepB (partsB s) = keepP (splitC (bts s)) := by
  unfold keepB partsB keepP
  rw [List.map_map]
  rfl
theorem keepB_snoc (ps : List ByteArray) (x : ByteArray) : keepB (ps ++ [x]) = if 0 < (trim x).size then keepB ps ++ [trim x] else keepB ps := by
  unfold keepB
  rw [List.map_append, List.filter_append]
  by_cases h : 0 < (trim x).size <;> simp [h]
theorem keepB_len (ps : List ByteArray) : (keepB ps).length ≤ ps.length := by
  unfold keepB
  exact Nat.le_trans (List.length_filter_le _ _) (by rw [List.length_map]; exact Nat.le_refl _)
theorem splitC_len : ∀ l : List UInt8, (splitC l).length ≤ l.length + 1
  | [] => Nat.le_refl _
  | x :: r => by
    have ih := splitC_len r
    unfold splitC
    split
    · simp only [List.length_cons]; omega
    · split
      · simp only [List.length_cons, List.length_nil]; omega
      · rename_i p ps hr
        rw [hr] at ih
        simp only [List.length_cons] at ih ⊢
        omega
theorem join_len : ∀ (l : List ByteArray), (∀ x ∈ l, x.size ≤ 1000) → (Lib.join (l.map bts) [44]).length ≤ l.length * 1001
  | [], _ => by simp [Lib.join_nil]
  | [x], h => by
    have := h x List.mem_cons_self
    rw [List.map_cons, List.map_nil, Lib.join_one, bts_len]
    simp only [List.length_cons, List.length_nil]
    omega
  | x :: y :: r, h => by
    have ih := join_len (y :: r) (fun z hz => h z (List.mem_cons_of_mem _ hz))
    have hx := h x List.mem_cons_self
    have e : Lib.join ((x :: y :: r).map bts) [44] = bts x ++ 44 :: Lib.join ((y :: r).map bts) [44] := by
      rw [List.map_cons, Lib.join_cons, List.map_cons, Lib.join_cons]
      simp [Lib.joinTail]
    rw [e, List.length_append, List.length_cons, bts_len]
    simp only [List.length_cons] at ih ⊢
    omega
theorem splitC_mem : ∀ (l : List UInt8) {p : List UInt8}, p ∈ splitC l → p.length ≤ l.length
  | [], p, h => by
    simp only [splitC, List.mem_cons, List.not_mem_nil, or_false] at h
    subst h
    exact Nat.le_refl _
  | x :: r, p, h => by
    unfold splitC at h
    split at h
    · rcases List.mem_cons.1 h with rfl | h
      · simp
      · have := splitC_mem r h; rw [List.length_cons]; omega
    · split at h
      · rename_i hr
        exact absurd hr (splitC_ne r)
      · rename_i q qs hr
        rcases List.mem_cons.1 h with rfl | h
        · have := splitC_mem r (p := q) (by rw [hr]; exact List.mem_cons_self)
          rw [List.length_cons, List.length_cons]; omega
        · have := splitC_mem r (p := p) (by rw [hr]; exact List.mem_cons_of_mem _ h)
          rw [List.length_cons]; omega
theorem partsB_size {s x : ByteArray} (h : x ∈ partsB s) : x.size ≤ s.size := by
  unfold partsB at h
  obtain ⟨p, hp, rfl⟩ := List.mem_map.1 h
  rw [ofL_size, ← bts_len]
  exact splitC_mem _ hp
theorem step_put (W : World) (l : Nat) (o : Obj) : Step (fun k => k = l) W (W.putObj l o) := Step.of_grown (grownBy_putObj' W l o) (fun k e _ => (Option.some.inj e).symm)
theorem fseg_cells {W : World} {T : TypeId} {k : Nat} {A : Option Addr} {n c : Nat} {cs : List Value} (h : FSeg W T k A n c cs) {g : Nat} (hg : blockOf A = some g) : ∃ o, W.heap[g]? = some o ∧ o.isCells = true := by
  rcases h.2 with ⟨e, _⟩ | ⟨g', cur, e, hc, _⟩
  · rw [e] at hg; cases hg
  · rw [e] at hg
    cases hg
    exact ⟨_, hc, rfl⟩
/-- An append whose run is known, inside a fence. -/
theorem wpListIn_app1 {F : Fence} {n : Nat} {P : Program} {ops : Array Oper} {rest : List Oper} {o : Oper} {a : Act} {w w' : World} {Q : Exit → Act → World → Prop} (hg : o.guard = none) (s x : Operand) (t : TypeId)
    (hop : o.op = .call { callee := .builtin .append, args := #[s, x], argTypes := #[t, t] }) {vs vx v : Value} (hs : a.eval s = vs) (hx : a.eval x = vx) (hr : (Builtin.append_ #[t, t] o.type #[vs, vx]).run P w = .ok v w') (h : wpListIn F n P ops Q rest (a.put o.dst v) w') :
    wpListIn F n P ops Q (o :: rest) a w := by
  refine wpListIn_plain hg fun K hK' => ?_
  unfold Oper.wpIn
  refine ⟨?_, ?_⟩
  · simp [Oper.about, hop, resolve, Target.leads, Sem.run_pure]
  · rw [Oper.semAt_plain F _ _ (by rw [hop]; intro c hc'; cases hc')]
    simp [execOp, hop, resolve, invoke, builtin, hs, hx, hr, Result.andThen]
    exact hK' _ _ h
/-- What octet.List has between two rounds. -/
def LsI (w0 : World) (ob sb pb zb : Nat) (pre : List ByteArray) (W : World) : Prop :=
  ∃ (m : Nat) (B : Option Addr) (cB : Nat), Blk W ob 35 [.slice B m cB] ∧ SW W B m cB (keepB pre) ∧ (∀ k, blockOf B = some k → w0.heap.size ≤ k ∧ k ≠ ob ∧ k ≠ sb ∧ k ≠ pb ∧ k ≠ zb) ∧ Step (fun _ => False) w0 W ∧ zb < W.heap.size
theorem LsI.step {w0 : World} {ob sb pb zb : Nat} {pre : List ByteArray} {W W' : World} {F : Nat → Prop} (h : LsI w0 ob sb pb zb pre W) (hs : Step F W W') (h1 : ∀ k, F k → w0.heap.size ≤ k) (h2 : ¬ F ob) (h3 : ∀ (B : Option Addr) (m cB : Nat), SW W B m cB (keepB pre) → (∀ k, blockOf B = some k → w0.heap.size ≤ k ∧ k ≠ ob ∧ k ≠ sb ∧ k ≠ pb ∧ k ≠ zb) → ∀ k, blockOf B = some k → ¬ F k) : LsI w0 ob sb pb zb pre W' := by
  obtain ⟨m, B, cB, hO, hB, hf, hst, hz⟩ := h
  exact ⟨m, B, cB, hO.keep hs h2, FSeg.keep hB hs (h3 B m cB hB hf), hf, hst.trans hs (fun j hj hF => by have := h1 j hF; omega), by have := hs.size; omega⟩
set_option maxRecDepth 100000 in
set_option maxHeartbeats 4000000 in
theorem olist_calls {w : World} {A : Option Addr} {n c : Nat} {l : List ByteArray} (h : SRd w A n l) (hA : ∀ k, blockOf A = some k → k < w.heap.size) (hc : n ≤ c) (hn : n ≤ 100) (hl : ∀ x ∈ l, x.size ≤ 1000) :
    Calls Tryd.prog 69 #[.slice A n c] w fun e w' => ∃ A' m c', e = .returned (.slice A' m c') ∧ SW w' A' m c' (listB l) ∧ Step (fun _ => False) w w' ∧ (∀ j, blockOf A' = some j → w.heap.size ≤ j) := by
  have hln := h.len
  have hjl := join_len l hl
  rw [hln] at hjl
  have HJ := Lib.hid (fun w' (hs : Step (fun _ => False) w w') => join_calls (c := c) (h.same hs) hc (by omega) (by omega))
  have hkj := keep_join l
  obtain ⟨s, hs⟩ : ∃ s, ofL (Lib.join (l.map bts) [44]) = s := ⟨_, rfl⟩
  have hbs : Lib.join (l.map bts) [44] = bts s := by rw [← hs, bts_ofL]
  rw [hs] at HJ
  rw [hbs, ← keepB_parts] at hkj
  have hss : s.size ≤ 100100 := by rw [← bts_len, ← hbs]; omega
  have hpl : (partsB s).length ≤ 100101 := by
    unfold partsB
    rw [List.length_map]
    have := splitC_len (bts s)
    rw [bts_len] at this
    omega
  have HKJ := Lib.hid hkj
  clear h hjl hkj hbs hs hl hA
  refine (callsIn_wide (n := 5)).1 ?_
  refine callsIn_of_wp_marks Tryd.func69 rfl trivial ?_ rfl
  simp only [Tryd.ntmps69, List.size_toArray, List.length_cons, List.length_nil, Nat.reduceAdd, Nat.reduceSub, Array.replicate_succ, Array.replicate_zero, List.push_toArray, List.append_toArray, List.nil_append, List.cons_append]
  gi_wp2
  obtain ⟨w1, hw1⟩ : ∃ w1, w.alloc (.cells #[.slice none 0 0] 35) = w1 := ⟨_, rfl⟩
  have hO1 : Blk w1 w.heap.size 35 [.slice none 0 0] := by rw [← hw1]; exact blk_new w [.slice none 0 0] 35
  have hs1 : Step (fun _ => False) w w1 := by rw [← hw1]; exact (Step.refl _ _).alloc _
  rw [hw1]
  clear hw1
  refine ⟨trivial, (callsIn_wide.2 (HJ.out w1 hs1)).mono ?_⟩
  rintro e w2 ⟨rfl, hs2⟩
  dsimp only
  gi_wp2
  refine ⟨trivial, (callsIn_wide.2 (splitseq_calls s w2)).mono ?_⟩
  rintro e w3 ⟨rfl, hS, hP, hZ, hs3, hlt3⟩
  dsimp only
  gi_wp2
  have hob : w.heap.size < w2.heap.size := Nat.lt_of_lt_of_le hO1.lt hs2.size
  have hO3 := (hO1.keep hs2 (fun h => h)).keep hs3 (fun h => h)
  have hst3 := (hs1.same hs2).same hs3
  obtain ⟨ob, hobe⟩ : ∃ ob, w.heap.size = ob := ⟨_, rfl⟩
  have HOB := Lib.hid hobe
  rw [hobe] at hob hO3 ⊢
  generalize w2.heap.size = sb at *
  have hbs3 : ∀ j ∈ [sb, sb + 1, sb + 2], j < w3.heap.size := by
    intro j hj
    simp only [List.mem_cons, List.not_mem_nil, or_false] at hj
    omega
  have h3 : ∀ (pre : List ByteArray), True := fun _ => trivial
  clear hobe hO1 hs1 hs2 hs3
  refine range_given (F := Fence.wide) (α := ByteArray) rfl (by omega) (gf := 119) (lb := #[.pointer (some ⟨sb + 1, 0, none⟩), .pointer (some ⟨sb, 0, none⟩), .pointer (some ⟨sb + 2, 0, none⟩)]) rfl trivial (enters_of Tryd.func119 (by kernel_rfl) rfl)
    (fun x : ByteArray => #[.string x]) (fun _ => rfl) (partsB s) sb [sb, sb + 1, sb + 2] (by omega) hbs3
    (LsI w ob sb (sb + 1) (sb + 2)) ?put ?all ?set ?start
    (fun x => { tmps := #[.slice A n c, undef, .slice none 0 0, .pointer (some ⟨ob, 0, none⟩), .string x, undef, .slice A n c, .string s, .func (.func 119) #[] #[.pointer (some ⟨sb + 1, 0, none⟩), .pointer (some ⟨sb, 0, none⟩), .pointer (some ⟨sb + 2, 0, none⟩)], .string x, undef, undef, undef, undef, undef, undef, undef, undef, undef], defers := [] }) ?assign ?body ?iter ?done
  case put =>
    intro pre W l o o' hl hlo ho hI
    have hwl : w.heap.size ≤ l := by have := HOB.out; omega
    refine hI.step (step_put W l o') (fun k hk => by rw [hk]; exact hwl) (by show ob ≠ l; omega) (fun B m cB hB _ k hk hkl => ?_)
    obtain ⟨o2, ho2, hc2⟩ := fseg_cells hB hk
    rw [hkl, hlo] at ho2
    cases ho2
    rw [ho] at hc2
    cases hc2
  case all =>
    intro pre W o hI
    exact hI.step ((Step.refl (fun _ => False) W).alloc o) (fun _ h => h.elim) (fun h => h) (fun _ _ _ _ _ _ _ h => h)
  case set =>
    intro pre W v hI
    have hsc : Step (fun k => k = sb) W (W.setCell ⟨sb, 0, none⟩ v) := Step.setCell (F := fun k => k = sb) (Step.refl _ W) (p := ⟨sb, 0, none⟩) (fun _ => rfl) v
    refine hI.step hsc (fun k hk => by have := HOB.out; rw [hk]; omega) (by show ob ≠ sb; omega) (fun B m cB _ hf k hk hks => (hf k hk).2.2.1 hks)
  case start => exact ⟨0, none, 0, hO3, fseg_nil _ _ _, (fun k hk => by cases hk), hst3, hlt3⟩
  case assign =>
    intro l x W K hK
    gi_wp2
    exact hK
  case body =>
    intro l pre x W hI hpre
    obtain ⟨m, B, cB, hO, hB, hf, hst, hzl⟩ := hI
    have hxm : x ∈ partsB s := hpre.subset (by simp)
    have hxs := partsB_size hxm
    have hpl1 := hpre.length_le
    rw [List.length_append, List.length_cons, List.length_nil] at hpl1
    have hkl := keepB_len pre
    have hml := hB.len
    have HT := Lib.hid (fun w => trim_calls x (by omega) w)
    have HSN := Lib.hid (keepB_snoc pre x)
    have hts := trim_size x
    generalize trim x = u at *
    gi_wp2
    refine ⟨trivial, (CallsIn.inRound l (callsIn_wide.2 (HT.out _))).mono ?_⟩
    rintro e W3 ⟨rfl, hs3⟩
    dsimp only
    have hO3 := hO.keep hs3 (fun h => h)
    have hB3 : SW W3 B m cB (keepB pre) := FSeg.keep hB hs3 (fun _ _ h => h)
    have o3 := hO3.cell (i := 0) rfl
    by_cases h0 : 0 < u.size
    · have hne := ne_e h0
      obtain ⟨B', c', W4, hap, hB4, hf4, hs4⟩ := app_st_one hB3 (by omega) u
      have hnb : ∀ k, blockOf B = some k → k ≠ ob := fun k hk => (hf k hk).2.1
      have hO4 := hO3.keep hs4 (fun e => hnb _ e rfl)
      have o4 := hO4.cell (i := 0) rfl
      have fr4 := hO4.free 0
      have HX := Lib.hid (And.intro hB4 (And.intro hf4 hs4))
      clear hB4 hf4 hs4
      gi_wp2_with (gi_at_builtin; refine wpListIn_app1 (by rfl) (.tmp 14) (.tmp 16) 35 (by rfl) (by rfl) (by rfl) hap ?_)
      obtain ⟨hB4, hf4, hs4⟩ := HX.out
      have hz3 := hs3.size
      have hzw := hst.size
      have hol := hO3.lt
      have hG : Step (fun k => k = ob ∨ blockOf B = some k) W (W4.setCell ⟨ob, 0, none⟩ (.slice B' (m + 1) c')) :=
        Step.setCell (F := fun k => k = ob ∨ blockOf B = some k) ((hs3.mono (fun _ _ h => h.elim)).same (hs4.mono (fun _ _ h => .inr h))) (p := ⟨ob, 0, none⟩) (fun _ => .inl rfl) _
      have hS5 : Step (fun k => k = ob) W4 (W4.setCell ⟨ob, 0, none⟩ (.slice B' (m + 1) c')) := Step.setCell (F := fun k => k = ob) (Step.refl _ W4) (p := ⟨ob, 0, none⟩) (fun _ => rfl) _
      have hf5 : ∀ k, blockOf B' = some k → w.heap.size ≤ k ∧ k ≠ ob ∧ k ≠ sb ∧ k ≠ sb + 1 ∧ k ≠ sb + 2 := fun k hk => by
        rcases hf4 k hk with h | h
        · exact hf k h
        · omega
      have hkk : keepB (pre ++ [x]) = keepB pre ++ [u] := by rw [HSN.out, if_pos h0]
      have hnG : ∀ j ∈ [sb, sb + 1, sb + 2], ¬ (j = ob ∨ blockOf B = some j) := by
        intro j hj h
        simp only [List.mem_cons, List.not_mem_nil, or_false] at hj
        rcases h with h | h
        · omega
        · have := hf j h; omega
      refine ⟨KeepsOthers.of_step hG (fun k o hk ho => ?_), fun j hj => hG.block j (by simp only [List.mem_cons, List.not_mem_nil, or_false] at hj; omega) (hnG j hj), m + 1, B', c', hO4.set 0 _, ?_, hf5, hst.trans hG (fun j hj h => ?_), by have := hG.size; omega⟩
      · rcases hk with h | h
        · have ho2 : W.heap[ob]? = some _ := hO
          rw [h, ho2] at ho
          cases ho
          rfl
        · obtain ⟨o2, ho2, hc2⟩ := fseg_cells hB h
          rw [ho2] at ho
          cases ho
          exact hc2
      · rw [hkk]
        exact FSeg.keep hB4 hS5 (fun k hk hko => (hf5 k hk).2.1 hko)
      · rcases h with h | h
        · have := HOB.out; omega
        · have := hf j h; omega
    · obtain rfl := ba_eq (show u.size = 0 by omega)
      have hne := nil_list
      have hkk : keepB (pre ++ [x]) = keepB pre := by rw [HSN.out, if_neg h0]
      gi_wp2
      exact ⟨KeepsOthers.of_step hs3 (fun _ _ h => h.elim), fun j hj => hs3.block j (by simp only [List.mem_cons, List.not_mem_nil, or_false] at hj; omega) (fun h => h), m, B, cB, hO3, by rw [hkk]; exact hB3, hf, hst.same hs3, by have := hs3.size; omega⟩
  case iter =>
    intro l J W h0 hkeep hset hY
    have hS4 : Blk W sb 9 [.string s] := (hkeep sb (by omega)).trans hS
    have hP4 : Blk W (sb + 1) 9 [.string ⟨#[44]⟩] := (hkeep (sb + 1) (by omega)).trans hP
    have hZ4 : Blk W (sb + 2) 3 [.int .i64 0] := (hkeep (sb + 2) (by omega)).trans hZ
    exact split_iter s (by omega) (by omega) (by omega) l 4 J W h0 hS4 hP4 hZ4 hset hY
  case done =>
    intro D W hD hI hK
    obtain ⟨m, B, cB, hO, hB, hf, hst, hzl⟩ := hI
    rw [HKJ.out] at hB
    have o0 := hO.cell (i := 0) rfl
    have hwd : w.heap.size ≤ D := by have := HOB.out; omega
    have hsD := step_put W D (.deferred none)
    have hBD : SW (W.putObj D (.deferred none)) B m cB (listB l) := FSeg.keep hB hsD (fun k hk hkD => by
      obtain ⟨o2, ho2, hc2⟩ := fseg_cells hB hk
      rw [hkD, hK] at ho2
      cases ho2
      cases hc2)
    have hstD : Step (fun _ => False) w (W.putObj D (.deferred none)) := hst.trans hsD (fun j hj e => by omega)
    gi_wp2
    refine ⟨by simp, .inl ⟨_, _, rfl, run_takeDeferred hK, ?_⟩⟩
    exact ⟨_, results_tmp rfl _ _ _, B, m, cB, rfl, hBD, hstD, fun j hj => (hf j hj).1⟩
end Go.Proofs.YtcpblhcpjjpffaaDoor.Fie
