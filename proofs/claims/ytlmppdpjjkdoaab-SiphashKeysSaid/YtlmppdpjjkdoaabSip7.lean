/- siphash: KeyOf. Own work of this seat. -/
import Derived.Test.YtlmppdpjjkdoaabSipR2
namespace Go.Proofs.Ytlmppdpjjkdoaab.Sip
open Go.RowKit Go.Proofs.Ytlmppdpjjkdoaab.Kit Go.Proofs.Ytlmppdpjjkdoaab.PSiphashKeys Go.Proofs.YtlmppdpjjkdoaabW.PrintWords Go.Proofs.YtlmppdpjjkdoaabW.PrintLast Go.Proofs.YtlmppdpjjkdoaabW.PrintMore
set_option linter.unusedVariables false

def keyOfB (s : ByteArray) : List UInt8 := (strB s).take 16 ++ (List.replicate 16 0).drop s.size
theorem keyOfB_len (s : ByteArray) : (keyOfB s).length = 16 := by
  simp [keyOfB, strB_len]; omega
def zeros16 : List Value := bcells (List.replicate 16 0)
theorem keyOf_cells (s : ByteArray) : (Lib.strCells s).take 16 ++ zeros16.drop s.size = bcells (keyOfB s) := by
  unfold keyOfB bcells zeros16 bcells
  rw [List.map_append, List.map_take, List.map_drop]
  rfl

set_option maxRecDepth 100000 in
set_option maxHeartbeats 2000000 in
theorem keyof_calls (s : ByteArray) (w : World) :
    Calls Try.prog 10 #[.string s] w fun e w' => e = .returned (.agg (bcells (keyOfB s)).toArray) ∧ Below w.heap.size w w' := by
  go_enter Try.func10, Try.ntmps10
  go_upto_region 2 with (fail)
  refine alloc_next2 (cs := zeros16) (ds := zeros16) ?_
  intro w1 hR hK hs hlt
  go_upto_region 3 with (refine wpList_copy_str (dLen := 16) (dCap := 16) _ rfl (.tmp 4) (.tmp 5) 32 9 5 rfl Try.underlying32 (by kernel_rfl) hK (by rfl) s rfl rfl ?_; intro w2 n2 hK2 hs2; rw [show (Lib.strCells s).take 16 ++ zeros16.drop s.size = bcells (keyOfB s) from keyOf_cells s] at hK2)
  have hR2 := hR.keep hs2 (by omega)
  have hlen : (bcells (keyOfB s)).length = 16 := by rw [bcells, List.length_map, keyOfB_len]
  obtain ⟨w3, hst, hR3, hs3⟩ := store_row (P := Try.prog) w2 hR2 (cs := bcells (keyOfB s)) (by rw [bcells, List.length_map, keyOfB_len]; rfl) bcells_one
  go_wp2_with (refine wpList_load_row rfl 28 (.tmp 3) rfl (w.heap.size + 1) rfl 28 _ (0, 0) _ hK2 Try.underlying28 rfl (by rw [show (bcells (keyOfB s)).toArray.size = 16 by simp [bcells, keyOfB_len]]; kernel_rfl) ?_)
  refine bodyPost_ret (results_cell_row rfl _ _ w.heap.size 28 _ (0, 0) _ rfl hR3 Try.underlying28 rfl (by rw [show (bcells (keyOfB s)).toArray.size = 16 by simp [bcells, keyOfB_len]]; kernel_rfl)) rfl ?_
  exact ⟨rfl, ((((hs.mono (fun _ _ h => h.elim)).same (hs2.mono (fun k _ e => (by omega : w.heap.size ≤ k)))).same (hs3.mono (fun k _ e => (by omega : w.heap.size ≤ k))))).below (Nat.le_refl _) (fun _ h => h)⟩
end Go.Proofs.Ytlmppdpjjkdoaab.Sip
