/- law 06: Own. Own work of this seat; no condition but on lengths. -/
import Derived.Test.YtcpblhcpjjpffaaDoorFie8
namespace Go.Proofs.YtcpblhcpjjpffaaDoor.Fie
open Go.RowKit Go.Proofs.YtcpblhcpjjpffaaDoor.Kit Go.Proofs.YtcpblhcpjjpffaaDoor.Oct Go.Proofs.YtcpblhcpjjpffaaDoor.Cut
set_option linter.unusedVariables false
set_option linter.unusedSimpArgs false

set_option maxRecDepth 100000 in
set_option maxHeartbeats 2000000 in
theorem own_calls {w : World} {A : Option Addr} {n c : Nat} {l : List Fd} (h : FRd w A n l) (hA : ∀ k, blockOf A = some k → k < w.heap.size) (hn : n ≤ 1000) :
    Calls Tryd.prog 16 #[.slice A n c] w fun e w' => ∃ A' c', e = .returned (.slice A' n c') ∧ FW w' 25 A' n c' l ∧ Step (fun _ => False) w w' ∧ (∀ j, blockOf A' = some j → w.heap.size ≤ j) := by
  have hln := h.len
  have HH := Lib.hid h
  have HAB := Lib.hid hA
  clear h hA
  go_enter Tryd.func16, Tryd.ntmps16
  go_wp2
  go_loopw [3, 8] (fun v3 v8 wr => ∃ (i : Nat) (B : Option Addr) (cB : Nat), v8 = .int .i64 (i : Int) ∧ v3 = .slice B i cB ∧ i ≤ n ∧ FW wr 25 B i cB (l.take i) ∧ Step (fun _ => False) w wr ∧ (∀ j, blockOf B = some j → w.heap.size ≤ j)) (fun _ v _ => n - (intOf v).toNat)
  case atStart => exact ⟨0, none, 0, rfl, rfl, Nat.zero_le _, fseg_nil _ _ _, Step.refl _ _, fun j hj => by cases hj⟩
  case round =>
    obtain ⟨i, B, cB, rfl, rfl, hi, hF, hst, hf⟩ := hrel
    by_cases hin : i < n
    · have hin' : ((i : Int) < (n : Int)) := by omega
      have hR := HH.out.same hst
      obtain ⟨g, o, rfl⟩ := RSeg.isSome hR (by omega) (by omega)
      have hget : l[i]? = some l[i] := List.getElem?_eq_getElem (by omega)
      obtain ⟨a0, a1⟩ := FRd.cells hR hget
      have htk : l.take (i + 1) = l.take i ++ [l[i]] := by rw [List.take_add_one, hget]; rfl
      have HTK := Lib.hid htk
      generalize l[i] = x at *
      clear hR hget htk HH
      obtain ⟨m, v⟩ := x
      simp only at a0 a1
      have hzr := hst.size
      go_upto_region 5 with (fail)
      refine alloc_next (cs := [.string m, .string v]) ?_
      intro w2 hE hs2
      have e0 := hE.cell (i := 0) rfl
      have e1 := hE.cell (i := 1) rfl
      have hF2 := hF.keep hs2 (fun _ _ h => h)
      obtain ⟨B', c', w3, hap, hF3, hf3, hs3⟩ := app_fd_one hF2 (by omega) ⟨m, v⟩
      have hz2 := hs2.size
      have HX := Lib.hid (And.intro hF3 (And.intro hf3 hs3))
      have HF := Lib.hid hf
      clear hF hF2 hF3 hf3 hs3 hf a0 a1
      go_wp2_with (at_builtin; refine wpList_app1 (by rfl) (.tmp 12) (.tmp 14) 38 (by rfl) (by rfl) (by rfl) hap ?_)
      go_roundw
      case rel =>
        obtain ⟨hF3, hf3, hs3⟩ := HX.out
        have hf := HF.out
        exact ⟨i + 1, B', c', by go_num, rfl, by omega, by rw [HTK.out]; exact hF3, (hst.same hs2).trans hs3 (fun j hj h => by have := hf _ h; omega), fun j hj => (hf3 j hj).elim (hf j) (fun h => by omega)⟩
      case measure => simp [intOf]; omega
    · have hin' : ¬ ((i : Int) < (n : Int)) := by omega
      obtain rfl : i = n := by omega
      have hF2 : FW wr 25 B i cB l := by rw [← hln, List.take_length] at hF; rw [hln] at hF; exact hF
      clear hF
      go_wp2
      go_ret
      exact ⟨B, cB, rfl, hF2, hst, hf⟩
end Go.Proofs.YtcpblhcpjjpffaaDoor.Fie
