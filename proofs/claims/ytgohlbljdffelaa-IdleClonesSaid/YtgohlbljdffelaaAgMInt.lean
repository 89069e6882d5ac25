/- agenda: which function the heap's methods of the pile are. Own work of this seat. -/
import Derived.Test.YtgohlbljdffelaaAgCInt
namespace Go.Proofs.Ytgohlbljdffelaa.AgInt
open Go.RowKit Go.Proofs.Ytgohlbljdffelaa.Kit Go.Proofs.Ytgohlbljdffelaa.Cmp Go.Proofs.Ytgohlbljdffelaa.HeapP
set_option linter.unusedVariables false
set_option linter.unusedSimpArgs false
theorem nil_less (a : Nat) (w : World) : (nilAhead 298 78 (.pointer (some ⟨a, 0, none⟩)) "Less").run Try.prog w = .ok (some false) w := by kernel_rfl
theorem nil_swap (a : Nat) (w : World) : (nilAhead 298 78 (.pointer (some ⟨a, 0, none⟩)) "Swap").run Try.prog w = .ok (some false) w := by kernel_rfl
theorem nil_len (a : Nat) (w : World) : (nilAhead 298 78 (.pointer (some ⟨a, 0, none⟩)) "Len").run Try.prog w = .ok (some false) w := by kernel_rfl
theorem nil_push (a : Nat) (w : World) : (nilAhead 298 78 (.pointer (some ⟨a, 0, none⟩)) "Push").run Try.prog w = .ok (some false) w := by kernel_rfl
theorem nil_pop (a : Nat) (w : World) : (nilAhead 298 78 (.pointer (some ⟨a, 0, none⟩)) "Pop").run Try.prog w = .ok (some false) w := by kernel_rfl
theorem load_pile {a : Nat} {w : World} {v : Value} (h : w.cell? ⟨a, 0, none⟩ = some v) : (loadVar 70 ⟨a, 0, none⟩).run Try.prog w = .ok v w := by
  have ha : (isAgg 70).run Try.prog w = .ok false w := by kernel_rfl
  unfold loadVar
  rw [Sem.run_bind, ha]
  simp [h]
theorem recv_less (a : Nat) (w : World) : (receiverAt 78 (.val (.pointer (some ⟨a, 0, none⟩))) false (some (("Less".splitOn ".").getLastD "Less"))).run Try.prog w = (loadVar 70 ⟨a, 0, none⟩).run Try.prog w := by kernel_rfl
theorem recv_swap (a : Nat) (w : World) : (receiverAt 78 (.val (.pointer (some ⟨a, 0, none⟩))) false (some (("Swap".splitOn ".").getLastD "Swap"))).run Try.prog w = (loadVar 70 ⟨a, 0, none⟩).run Try.prog w := by kernel_rfl
theorem recv_len (a : Nat) (w : World) : (receiverAt 78 (.val (.pointer (some ⟨a, 0, none⟩))) false (some (("Len".splitOn ".").getLastD "Len"))).run Try.prog w = (loadVar 70 ⟨a, 0, none⟩).run Try.prog w := by kernel_rfl
theorem meth_less0 (a : Nat) (w : World) : (method 298 78 (.pointer (some ⟨a, 0, none⟩)) "Less").run Try.prog w = (do let r ← receiverAt 78 (.val (.pointer (some ⟨a, 0, none⟩))) false (some (("Less".splitOn ".").getLastD "Less")); pure ((129 : FuncId), r) : Sem (FuncId × Value)).run Try.prog w := by kernel_rfl
theorem meth_swap0 (a : Nat) (w : World) : (method 298 78 (.pointer (some ⟨a, 0, none⟩)) "Swap").run Try.prog w = (do let r ← receiverAt 78 (.val (.pointer (some ⟨a, 0, none⟩))) false (some (("Swap".splitOn ".").getLastD "Swap")); pure ((130 : FuncId), r) : Sem (FuncId × Value)).run Try.prog w := by kernel_rfl
theorem meth_len0 (a : Nat) (w : World) : (method 298 78 (.pointer (some ⟨a, 0, none⟩)) "Len").run Try.prog w = (do let r ← receiverAt 78 (.val (.pointer (some ⟨a, 0, none⟩))) false (some (("Len".splitOn ".").getLastD "Len")); pure ((128 : FuncId), r) : Sem (FuncId × Value)).run Try.prog w := by kernel_rfl
theorem meth_less {a : Nat} {w : World} {v : Value} (h : w.cell? ⟨a, 0, none⟩ = some v) : (method 298 78 (.pointer (some ⟨a, 0, none⟩)) "Less").run Try.prog w = .ok (129, v) w := by
  rw [meth_less0, Sem.run_bind, recv_less, load_pile h]; rfl
theorem meth_swap {a : Nat} {w : World} {v : Value} (h : w.cell? ⟨a, 0, none⟩ = some v) : (method 298 78 (.pointer (some ⟨a, 0, none⟩)) "Swap").run Try.prog w = .ok (130, v) w := by
  rw [meth_swap0, Sem.run_bind, recv_swap, load_pile h]; rfl
theorem meth_len {a : Nat} {w : World} {v : Value} (h : w.cell? ⟨a, 0, none⟩ = some v) : (method 298 78 (.pointer (some ⟨a, 0, none⟩)) "Len").run Try.prog w = .ok (128, v) w := by
  rw [meth_len0, Sem.run_bind, recv_len, load_pile h]; rfl
theorem meth_push (a : Nat) (w : World) : (method 298 78 (.pointer (some ⟨a, 0, none⟩)) "Push").run Try.prog w = .ok (132, .pointer (some ⟨a, 0, none⟩)) w := by kernel_rfl
theorem meth_pop (a : Nat) (w : World) : (method 298 78 (.pointer (some ⟨a, 0, none⟩)) "Pop").run Try.prog w = .ok (131, .pointer (some ⟨a, 0, none⟩)) w := by kernel_rfl
end Go.Proofs.Ytgohlbljdffelaa.AgInt
