/- Rows that are only read, wherever they begin; one element appended to a row of the call's own. Own work of this seat; no condition. -/
import Derived.Test.YtdglbpjgadjnjaaDoorFlat
namespace Go.Proofs.YtdglbpjgadjnjaaDoor.Kit
open Go.RowKit
set_option linter.unusedVariables false
set_option linter.unusedSimpArgs false

theorem cell_block {w w' : World} {p : Addr} (h : w'.heap[p.block]? = w.heap[p.block]?) : w'.cell? p = w.cell? p := by
  unfold World.cell?
  rw [h]
theorem cell_lt' {w : World} {p : Addr} {v : Value} (h : w.cell? p = some v) : p.block < w.heap.size := by
  rcases Nat.lt_or_ge p.block w.heap.size with hl | hl
  · exact hl
  · unfold World.cell? at h
    rw [Array.getElem?_eq_none hl] at h
    simp at h
/-- The slice .slice A n c of elements of k cells reads as the cells cs. -/
def RSeg (w : World) (k : Nat) (A : Option Addr) (n : Nat) (cs : List Value) : Prop := cs.length = n * k ∧ ∀ j v, cs[j]? = some v → ∃ g o, A = some ⟨g, o, none⟩ ∧ w.cell? ⟨g, o + j, none⟩ = some v
section
variable {w w' : World} {T : TypeId} {k : Nat} {A : Option Addr} {n c : Nat} {cs : List Value} {F : Nat → Prop}
theorem FSeg.rseg (h : FSeg w T k A n c cs) : RSeg w k A n cs := by
  refine ⟨h.1, fun j v hj => ?_⟩
  obtain ⟨hl, ⟨rfl, rfl, rfl, rfl⟩ | ⟨g, cur, rfl, _⟩⟩ := id h
  · simp at hj
  · exact ⟨g, 0, rfl, by rw [Nat.zero_add]; exact FSeg.cell h hj⟩
theorem RSeg.keep (h : RSeg w k A n cs) (hs : Step F w w') (hF : ∀ j, blockOf A = some j → ¬ F j) : RSeg w' k A n cs := by
  refine ⟨h.1, fun j v hj => ?_⟩
  obtain ⟨g, o, rfl, hc⟩ := h.2 j v hj
  have hb := cell_lt' hc
  refine ⟨g, o, rfl, ?_⟩
  rw [cell_block (hs.block _ hb (hF _ rfl))]
  exact hc
theorem RSeg.same (h : RSeg w k A n cs) (hs : Step (fun _ => False) w w') : RSeg w' k A n cs := h.keep hs (fun _ _ h => h)
theorem RSeg.lt (h : RSeg w k A n cs) (hn : 0 < n) (hk : 0 < k) {j : Nat} (hj : blockOf A = some j) : j < w.heap.size := by
  have hl : 0 < cs.length := by rw [h.1]; exact Nat.mul_pos hn hk
  obtain ⟨g, o, rfl, hc⟩ := h.2 0 cs[0] (List.getElem?_eq_getElem hl)
  obtain rfl : g = j := Option.some.inj hj
  exact cell_lt' hc
theorem rseg_nil (w : World) (k : Nat) (A : Option Addr) : RSeg w k A 0 [] := ⟨by simp, fun j v hj => by simp at hj⟩
theorem RSeg.isSome (h : RSeg w k A n cs) (hk : 0 < k) (hn : 0 < n) : ∃ g o, A = some ⟨g, o, none⟩ := by
  have hl : 0 < cs.length := by rw [h.1]; exact Nat.mul_pos hn hk
  obtain ⟨g, o, e, hc⟩ := h.2 0 cs[0] (List.getElem?_eq_getElem hl)
  exact ⟨g, o, e⟩
theorem RSeg.cell {g o : Nat} (h : RSeg w k (some ⟨g, o, none⟩) n cs) {j : Nat} {v : Value} (hj : cs[j]? = some v) : w.cell? ⟨g, o + j, none⟩ = some v := by
  obtain ⟨g', o', e, hc⟩ := h.2 j v hj
  injection e with e
  injection e with e1 e2 _
  rw [e1, e2]
  exact hc
theorem RSeg.cell' {g o : Nat} (h : RSeg w k (some ⟨g, o, none⟩) n cs) {i j : Nat} {v : Value} (hj : cs[i + j]? = some v) : w.cell? ⟨g, o + i + j, none⟩ = some v := by
  rw [Nat.add_assoc]
  exact h.cell hj
/-- xs[m:] -/
theorem rseg_drop {P : Program} {t : TypeId} (ht : P.underlying t = some (.slice (P.elem t))) (hsz : ∀ wx, (sizeOf (P.elem t)).run P wx = .ok k wx) (h : RSeg w k A n cs) (hc : n ≤ c) {m : Nat} (hm : m ≤ n) :
    ∃ A', (∀ wx, (Instr.slice t (.slice A n c) (some (.int .i64 (m : Int))) none none).run P wx = .ok (.slice A' (n - m) (c - m)) wx) ∧ RSeg w k A' (n - m) (cs.drop (m * k)) ∧ blockOf A' = blockOf A := by
  refine ⟨if c = m then A else A.map (·.add (m * k)), fun wx => ?_, ⟨?_, fun j v hj => ?_⟩, ?_⟩
  · rw [run_slice_l (P := P) wx t A n c ht .i64 (m : Int) (by omega) (by omega)]
    rw [hsz wx]
    simp [Result.andThen, sliced]
  · rw [List.length_drop, h.1, Nat.sub_mul]
  · rw [List.getElem?_drop] at hj
    obtain ⟨g, o, rfl, hcc⟩ := h.2 _ v hj
    by_cases e : c = m
    · have h1 := (List.getElem?_eq_some_iff.1 hj).1
      rw [h.1] at h1
      have : n = m := by omega
      rw [this] at h1
      omega
    · rw [if_neg e]
      refine ⟨g, o + m * k, ?_, by rw [Nat.add_assoc]; exact hcc⟩
      simp only [Option.map_some, Addr.add]
      by_cases h0 : m * k = 0
      · rw [if_pos h0, h0, Nat.add_zero]
      · rw [if_neg h0]
  · by_cases e : c = m
    · rw [if_pos e]
    · rw [if_neg e]
      cases A with
      | none => rfl
      | some a => simp only [Option.map_some, blockOf, Addr.add]; split <;> rfl
end
/-- One element behind a row of the call's own. -/
theorem run_app_one {P : Program} {w : World} (t T : TypeId) (ht : P.underlying t = some (.slice T)) {i : TypeInfo} {z : Value} {k by_ : Nat} (hi : P.info? T = some i) (hz : i.zero = some z) (hzs : z.cells.size = k) (hs : i.size = k) (hy : i.bytes = by_) (hb48 : by_ ≤ 1000)
    {A : Option Addr} {n c b : Nat} {l v : List Value} (h : FSeg w T k A n c l) (hv : v.length = k) (h1 : ∀ x ∈ v, x.oneCell' = true) (hB : Blk w b T v) (hb : n + 1 ≤ 1000000) :
    ∃ A' c' w', (Builtin.append_ #[t, t] t #[.slice A n c, .slice (some ⟨b, 0, none⟩) 1 1]).run P w = .ok (.slice A' (n + 1) c') w' ∧ FSeg w' T k A' (n + 1) c' (l ++ v) ∧ Step (fun k => blockOf A = some k) w w' ∧ (blockOf A' = blockOf A ∨ ∃ k, blockOf A' = some k ∧ w.heap.size ≤ k) :=
  run_append_flat (P := P) (cB := 1) w t t T i z k by_ ht hi hz hzs hs hy hb48 h (m := 1) (r := v) (aB := ⟨b, 0, none⟩) (by rw [hv, Nat.one_mul]) (fun _ => Nat.one_pos) h1 (fun j v hj => by rw [addr_add', Nat.zero_add]; exact hB.cell hj) hb
theorem wpList_app1 {P : Program} {ops : Array Oper} {rest : List Oper} {o : Oper} {a : Act} {w w' : World} {Q : Exit → Act → World → Prop} (hgd : o.guard = none) (s x : Operand) (t : TypeId)
    (ho : o.op = .call { callee := .builtin .append, args := #[s, x], argTypes := #[t, t] }) {vs vx v : Value} (hs : a.eval s = vs) (hx : a.eval x = vx) (hr : (Builtin.append_ #[t, t] o.type #[vs, vx]).run P w = .ok v w') (h : wpList P ops Q rest (a.put o.dst v) w') :
    wpList P ops Q (o :: rest) a w := by
  refine wpList_plain hgd fun K hK => ?_
  unfold Oper.wp execOp
  simp only [ho, resolve, invoke, builtin, Sem.run_bind, Sem.run_pure, Result.andThen_ok, List.map_toArray, List.map_cons, List.map_nil, hs, hx, hr]
  exact hK _ _ h
end Go.Proofs.YtdglbpjgadjnjaaDoor.Kit
