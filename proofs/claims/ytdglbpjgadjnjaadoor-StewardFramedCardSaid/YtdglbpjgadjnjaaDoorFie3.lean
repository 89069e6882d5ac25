/- fields: Clone, DeleteFunc, Drop. Own work of this seat; no condition but on lengths. -/
import Derived.Test.YtdglbpjgadjnjaaDoorFie2
import Derived.Laws.Cover3
namespace Go.Proofs.YtdglbpjgadjnjaaDoor.Fie
open Go.RowKit Go.Proofs.YtdglbpjgadjnjaaDoor.Kit Go.Proofs.YtdglbpjgadjnjaaDoor.Oct Go.Proofs.YtdglbpjgadjnjaaDoor.Cut
set_option linter.unusedVariables false
set_option linter.unusedSimpArgs false

theorem i0fd : ∃ i, Tryd.prog.info? 27 = some i ∧ i.zero = some (.agg #[.string ⟨#[]⟩, .string ⟨#[]⟩]) ∧ i.size = 2 ∧ i.bytes = 32 := by
  obtain ⟨i, hi, hp⟩ := Option.map_eq_some_iff.1 (by kernel_rfl : (Tryd.prog.info? 27).map (fun i => (i.zero, i.size, i.bytes)) = some (some (.agg #[.string ⟨#[]⟩, .string ⟨#[]⟩]), 2, 32))
  simp only [Prod.mk.injEq] at hp
  exact ⟨i, hi, hp⟩
theorem fdcs_cell (l : List Fd) : ∀ v ∈ fdcs l, v.oneCell' = true := by
  intro v hv
  obtain ⟨x, _, hx⟩ := List.mem_flatMap.1 hv
  exact fdc_cell x v hx
/-- append(s, r...) of a row of the call's own and a row that is read. -/
theorem app_fds {w : World} {A : Option Addr} {n c m cB g o : Nat} {l r : List Fd} (h : FW w 27 A n c l) (hr : FRd w (some ⟨g, o, none⟩) m r) (hm0 : A = none → 0 < m) (hb : n + m ≤ 1000000) :
    ∃ A' c' w', (Builtin.append_ #[29, 29] 29 #[.slice A n c, .slice (some ⟨g, o, none⟩) m cB]).run Tryd.prog w = .ok (.slice A' (n + m) c') w' ∧ FW w' 27 A' (n + m) c' (l ++ r) ∧ Step (fun k => blockOf A = some k) w w' ∧ (blockOf A' = blockOf A ∨ ∃ k, blockOf A' = some k ∧ w.heap.size ≤ k) := by
  obtain ⟨i0, hi0, hz0, hs0, hy0⟩ := i0fd
  obtain ⟨A', c', w', h1, h2, h3, h4⟩ := run_append_flat (P := Tryd.prog) (cB := cB) w 29 29 27 i0 _ 2 32 Tryd.underlying29 hi0 hz0 rfl hs0 hy0 (by omega) h (m := m) (r := fdcs r) (aB := ⟨g, o, none⟩) hr.1 hm0 (fdcs_cell r) (fun j v hj => by rw [addr_add']; exact RSeg.cell hr hj) hb
  exact ⟨A', c', w', h1, by unfold FW; rw [fdcs_append]; exact h2, h3, h4⟩
theorem fw_empty (w : World) (T : TypeId) : FW (w.alloc (.cells #[] T)) T (some ⟨w.heap.size, 0, none⟩) 0 0 [] :=
  ⟨rfl, .inr ⟨w.heap.size, #[], rfl, blk_new w [] T, Nat.le_refl _, by simp, fun j v hj => by simp [fdcs] at hj⟩⟩

theorem eqnil (A : Option Addr) (n c : Nat) (w : World) : (binOp .eql 29 (.slice A n c) (.slice none 0 0)).run Tryd.prog w = .ok (.bool A.isNone) w := by
  simp only [binOp]
  simp [run_equal_slice_nil w 29 _ A n c Tryd.underlying29]
theorem fdcs_take (l : List Fd) : ∀ m, (fdcs l).take (m * 2) = fdcs (l.take m) := by
  induction l with
  | nil => intro m; simp [fdcs]
  | cons x r ih =>
    intro m
    cases m with
    | zero => simp [fdcs]
    | succ m =>
      have e : fdcs (x :: r) = .string x.nm :: .string x.vl :: fdcs r := rfl
      have e2 : (m + 1) * 2 = m * 2 + 1 + 1 := by omega
      rw [e, e2, List.take_succ_cons, List.take_succ_cons, ih m, List.take_succ_cons]
      rfl
theorem fdcs_drop (l : List Fd) : ∀ m, (fdcs l).drop (m * 2) = fdcs (l.drop m) := by
  induction l with
  | nil => intro m; simp [fdcs]
  | cons x r ih =>
    intro m
    cases m with
    | zero => simp
    | succ m =>
      have e : fdcs (x :: r) = .string x.nm :: .string x.vl :: fdcs r := rfl
      have e2 : (m + 1) * 2 = m * 2 + 1 + 1 := by omega
      rw [e, e2, List.drop_succ_cons, List.drop_succ_cons, ih m, List.drop_succ_cons]
theorem fdcs_store (l : List Fd) (m : Nat) (x : Fd) (hm : m < l.length) : (fdcs l).take (m * 2) ++ [.string x.nm, .string x.vl] ++ (fdcs l).drop (m * 2 + 2) = fdcs (l.set m x) := by
  have e1 : m * 2 + 2 = (m + 1) * 2 := by omega
  rw [e1, fdcs_take, fdcs_drop, List.set_eq_take_append_cons_drop, if_pos hm, fdcs_append]
  have e2 : fdcs (x :: l.drop (m + 1)) = .string x.nm :: .string x.vl :: fdcs (l.drop (m + 1)) := rfl
  rw [e2]
  simp
theorem filt_step {p : Fd → Bool} {l : List Fd} {j : Nat} {x : Fd} (h : l[j]? = some x) : (l.take (j + 1)).filter (fun y => !p y) = if p x = true then (l.take j).filter (fun y => !p y) else (l.take j).filter (fun y => !p y) ++ [x] := by
  rw [List.take_add_one, h, List.filter_append]
  cases hp : p x <;> simp [hp]
theorem filt_len (p : Fd → Bool) (l : List Fd) (j : Nat) : ((l.take j).filter (fun y => !p y)).length ≤ j := Nat.le_trans (List.length_filter_le _ _) (by rw [List.length_take]; omega)
theorem hzv (w : World) : (zeroValue 27).run Tryd.prog w = .ok (.agg #[.string ⟨#[]⟩, .string ⟨#[]⟩]) w := by kernel_rfl
/-- Drop, by names. -/
def dropF (l : List Fd) (ss : List ByteArray) : List Fd := l.filter (fun x => !(ss.any (sameN x.nm)))
def Sml (l : List Fd) : Prop := ∀ x ∈ l, x.nm.size ≤ 1000000 ∧ x.vl.size ≤ 1000000
end Go.Proofs.YtdglbpjgadjnjaaDoor.Fie
