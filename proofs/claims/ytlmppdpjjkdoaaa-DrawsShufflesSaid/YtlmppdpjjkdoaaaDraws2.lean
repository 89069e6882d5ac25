/- The numbers handed in: slices.Delete of the first one; Next. Own work of this seat. -/
import Derived.Test.YtlmppdpjjkdoaaaDraws1
import Derived.StillTailTactics
namespace Go.Proofs.Ytlmppdpjjkdoaaa.Draws
open Go.RowKit Go.Proofs.Ytlmppdpjjkdoaaa.Kit Go.Proofs.Ytlmppdpjjkdoaaa.PDrawsTwo Go.Proofs.YtlmppdpjjkdoaaaW.PrintWords Go.Proofs.YtlmppdpjjkdoaaaW.PrintLast Go.Proofs.YtlmppdpjjkdoaaaW.PrintMore
set_option linter.unusedVariables false
set_option linter.unusedSimpArgs false

section
variable {P : Program}
/-- append(s[:0], s[1:]...): within the row's own block. -/
theorem wpList_shift {ops : Array Oper} {rest : List Oper} {o : Oper} {a : Act} {Q : Exit → Act → World → Prop} {w : World} (hgd : o.guard = none) (sl x : Operand) (t : TypeId)
    (ho : o.op = .call { callee := .builtin .append, args := #[sl, x], argTypes := #[t, t] })
    (e : TypeId) (i : TypeInfo) (ht : P.underlying t = some (.slice e)) (hi : P.info? e = some i) (hs1 : i.size = 1)
    {g f c m cB : Nat} {B : Option Addr} {cur : Array Value} {ys : List Value} (hg : w.heap[g]? = some (.cells cur e (0, 0))) (hc : f + c ≤ cur.size) (hm : ys.length = m) (hmc : m ≤ c) (hcell : ∀ j u, ys[j]? = some u → cur[f + 1 + j]? = some u) (h1 : ∀ v ∈ ys, v.oneCell' = true)
    (hB : (m = 0 ∧ B = some ⟨g, f, none⟩) ∨ B = some ⟨g, f + 1, none⟩)
    (hs : a.eval sl = .slice (some ⟨g, f, none⟩) 0 c) (hx : a.eval x = .slice B m cB)
    (h : ∀ w', w'.heap[g]? = some (.cells (cur.toList.take f ++ ys ++ cur.toList.drop (f + m)).toArray e (0, 0)) → Step (· = g) w w' → wpList P ops Q rest (a.put o.dst (.slice (some ⟨g, f, none⟩) m c)) w') : wpList P ops Q (o :: rest) a w := by
  refine wpList_plain hgd fun K hK => ?_
  have hf : (Builtin.firstCells 1 m (.slice B m cB)).run P w = .ok ys.toArray w := by
    rcases hB with ⟨h0, rfl⟩ | rfl
    · subst h0
      obtain rfl : ys = [] := List.eq_nil_of_length_eq_zero hm
      exact run_firstCells_some (P := P) w 1 0 _ 0 cB [] rfl (by simp)
    · exact run_firstCells_some (P := P) w 1 m _ m cB ys (by omega) (fun j v hj => by rw [addr_add]; simp [World.cell?, hg, hcell j v hj])
  have hst := run_storeCells_at P g f e ys 0 cur w hg (by omega) h1
  simp only [Nat.add_zero, hm] at hst
  unfold Oper.wp execOp
  simp only [ho, resolve, invoke, builtin, Sem.run_bind, Sem.run_pure, Result.andThen_ok, List.map_toArray, List.map_cons, List.map_nil, hs, hx]
  have hr : (Builtin.append_ #[t, t] o.type #[.slice (some ⟨g, f, none⟩) 0 c, .slice B m cB]).run P w = .ok (.slice (some ⟨g, f, none⟩) m c) (w.setRow g (cur.toList.take f ++ ys ++ cur.toList.drop (f + m)).toArray) := by
    have hadd := addr_add g f 0
    simp only [Nat.add_zero] at hadd
    simp [Builtin.append_, run_underlying ht, sizeOf, typeInfo, hi, hs1, Builtin.lenOf, hmc, hf, hadd, hst]
  rw [hr]
  exact hK _ _ (h _ (setRow_heap w g cur _ e _ hg) ⟨rfl, rfl, rfl, by simp, fun k _ hk => setRow_other w g k _ (fun e => hk e)⟩)

theorem shift_cells (L ys : List Value) (z : Value) (f m : Nat) (hm : ys.length = m) (hL : f + m + 1 ≤ L.length) :
    ((L.take f ++ ys ++ L.drop (f + m)).take (f + m) ++ [z] ++ (L.take f ++ ys ++ L.drop (f + m)).drop (f + m + 1)).length = L.length ∧ ∀ j u, ys[j]? = some u → ((L.take f ++ ys ++ L.drop (f + m)).take (f + m) ++ [z] ++ (L.take f ++ ys ++ L.drop (f + m)).drop (f + m + 1))[f + j]? = some u := by
  have e1 : (L.take f).length = f := by rw [List.length_take]; omega
  have e2 : (L.take f ++ ys).length = f + m := by rw [List.length_append, e1, hm]
  have e3 : (L.take f ++ ys ++ L.drop (f + m)).take (f + m) = L.take f ++ ys := by rw [← e2, List.take_left]
  rw [e3]
  refine ⟨by simp only [List.length_append, e1, hm, List.length_drop, List.length_cons, List.length_nil]; omega, fun j u hj => ?_⟩
  have hjl : j < m := by rw [← hm]; exact (List.getElem?_eq_some_iff.1 hj).1
  rw [List.append_assoc, List.getElem?_append_left (by rw [e2]; omega), List.getElem?_append_right (by omega), e1, Nat.add_sub_cancel_left]
  exact hj

/-- clear(s[n:n+1]). -/
theorem run_clear1 {w : World} (t ty : TypeId) (e : TypeId) (z : Value) (ht : P.underlying t = some (.slice e)) (hv : ∀ w, (zeroValue e).run P w = .ok z w) (hz : z.cells = #[z]) (hz1 : z.oneCell' = true)
    {g f : Nat} (cB : Nat) {cur : Array Value} (hg : w.heap[g]? = some (.cells cur e (0, 0))) (hc : f + 1 ≤ cur.size) :
    ∃ w', (Builtin.clear_ #[t] ty #[.slice (some ⟨g, f, none⟩) 1 cB]).run P w = .ok (.tuple #[]) w' ∧ w'.heap[g]? = some (.cells (cur.toList.take f ++ [z] ++ cur.toList.drop (f + 1)).toArray e (0, 0)) ∧ Step (· = g) w w' := by
  refine ⟨w.setRow g (cur.toList.take f ++ [z] ++ cur.toList.drop (f + 1)).toArray, ?_, setRow_heap w g cur _ e _ hg, ⟨rfl, rfl, rfl, by simp, fun k _ hk => setRow_other w g k _ (fun e => hk e)⟩⟩
  have hst := run_storeCells_at P g f e [z] 0 cur w hg (by simpa using hc) (fun v hv' => by rw [List.mem_singleton.1 hv']; exact hz1)
  simp only [Nat.add_zero, List.length_cons, List.length_nil, Nat.zero_add] at hst
  have hzc : (Builtin.zeroCells z.cells 1).toList = [z] := by
    rw [hz]
    simp [Builtin.zeroCells, Array.range]
  simp [Builtin.clear_, run_underlying ht, hv, hzc]
  simpa using congrArg (fun r => r.andThen fun _ w => .ok (Value.tuple #[]) w) hst
end

set_option maxRecDepth 100000 in
set_option maxHeartbeats 4000000 in
theorem delete_calls {w : World} {A : Option Addr} {n c : Nat} {x : Int} {rest : List Int} (h : Seg w 76 A n c (uvals (x :: rest))) (hmax : n ≤ 9223372036854775807) :
    Calls Try.prog 74 #[.slice A n c, .int .i64 0, .int .i64 1] w fun e w' => e = .returned (.slice A (n - 1) c) ∧ Seg w' 76 A (n - 1) c (uvals rest) ∧ Step (fun k => blockOf A = some k) w w' := by
  obtain ⟨hl, ⟨rfl, rfl, h0⟩ | ⟨g, f, cur, rfl, hg, hnc, hcs, hcell⟩⟩ := h
  · simp [uvals] at h0
  · obtain ⟨i0, hi0, hp⟩ : ∃ i, Try.prog.info? 76 = some i ∧ (i.zero, i.size, i.bytes) = (some (Value.int .u64 0), 1, 8) := by
      exact Option.map_eq_some_iff.1 (by kernel_rfl : (Try.prog.info? 76).map (fun i => (i.zero, i.size, i.bytes)) = some (some (Value.int .u64 0), 1, 8))
    simp only [Prod.mk.injEq] at hp
    obtain ⟨hz0, hs0, hy0⟩ := hp
    rw [uvals_length, List.length_cons] at hl
    have hrl : (uvals rest).length = n - 1 := by rw [uvals_length]; omega
    have hcell' : ∀ j u, (uvals rest)[j]? = some u → cur[f + 1 + j]? = some u := by
      intro j u hj
      have := hcell (j + 1) u (by simpa [uvals] using hj)
      rwa [show f + (j + 1) = f + 1 + j by omega] at this
    have b1 : (1 : Int) ≤ (n : Int) := by omega
    have b2 : (n : Int) ≤ (c : Int) := by omega
    have b3 : (1 : Int) ≤ (c : Int) := by omega
    go_enter Try.func74, Try.ntmps74
    go_upto_region 5 with (fail)
    go_still_tail 6, (by kernel_rfl)
    change wpList _ _ _ _ _ w.drew
    have hgd := hg
    change w.drew.heap[g]? = _ at hgd
    generalize hwd : w.drew = wd at *
    have b4 : ¬ (c = n - 1) := by omega
    have b5 : ((n - 1 : Nat) : Int) ≤ (n : Int) := by omega
    have hnn : n - (n - 1) = 1 := by omega
    have hstd : Step (· = g) w wd := hwd ▸ (Step.refl (· = g) w).drew
    have hsz2 : f + (n - 1) + 1 ≤ (cur.toList.take f ++ uvals rest ++ cur.toList.drop (f + (n - 1))).toArray.size := by
      have e1 : (cur.toList.take f).length = f := by rw [List.length_take, Array.length_toList]; omega
      simp only [List.size_toArray, List.length_append, hrl, e1, List.length_drop, Array.length_toList]
      omega
    have hzv : ∀ w, (zeroValue 76).run Try.prog w = .ok (.int .u64 0) w := fun w => by simp [zeroValue, typeInfo, hi0, hz0]
    clear hwd hg
    by_cases hc1 : c = 1
    all_goals
      go_wp2_with (at_builtin; refine wpList_shift rfl (.tmp 22) (.tmp 25) 60 rfl 76 i0 Try.underlying60 hi0 hs0 hgd hcs hrl (by omega) hcell' (uvals_one _) (by first | (rw [if_neg hc1]; exact Or.inr rfl) | (rw [if_pos hc1]; exact Or.inl ⟨by omega, rfl⟩)) rfl rfl ?_; intro w2 hg2 hs2)
    all_goals
      obtain ⟨w3, hclr, hg3, hs3⟩ := run_clear1 (P := Try.prog) 60 0 76 (.int .u64 0) Try.underlying60 hzv rfl rfl (f := f + (n - 1)) (c - (n - 1)) hg2 hsz2
      first | rw [hclr] | (simp only [hc1] at hclr ⊢; rw [hclr])
    all_goals
      go_wp2
      go_ret
      obtain ⟨e1, e2⟩ := shift_cells cur.toList (uvals rest) (.int .u64 0) f (n - 1) hrl (by rw [Array.length_toList]; omega)
      refine ⟨rfl, ⟨hrl, .inr ⟨g, f, _, rfl, hg3, by omega, ?_, fun j u hj => ?_⟩⟩, ?_⟩
      · simp only [List.size_toArray] at e1 ⊢; rw [e1, Array.length_toList]; omega
      · have := e2 j u hj; simpa using this
      · exact (((hstd.same hs2).same hs3).mono (fun j _ e => by rw [show j = g from e]; rfl))
end Go.Proofs.Ytlmppdpjjkdoaaa.Draws
