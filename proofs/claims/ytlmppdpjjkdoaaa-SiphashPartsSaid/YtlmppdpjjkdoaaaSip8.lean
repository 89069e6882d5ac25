/- siphash: small words for the laws' walks. Own work of this seat. -/
import Derived.Test.YtlmppdpjjkdoaaaSip6
import Derived.Test.YtlmppdpjjkdoaaaSipR2
import Derived.Deep.RegionWith
import Derived.Laws.BytesArg
namespace Go.Proofs.Ytlmppdpjjkdoaaa.Sip
open Go.RowKit Go.Proofs.Ytlmppdpjjkdoaaa.Kit Go.Proofs.Ytlmppdpjjkdoaaa.PSiphashSums Go.Proofs.YtlmppdpjjkdoaaaW.PrintWords Go.Proofs.YtlmppdpjjkdoaaaW.PrintLast Go.Proofs.YtlmppdpjjkdoaaaW.PrintMore
set_option linter.unusedVariables false

def cutB (s : ByteArray) (n : Nat) : ByteArray := if n < s.size then s.extract 0 n else s
theorem cutB_size (s : ByteArray) (n : Nat) : (cutB s n).size ≤ n := by
  unfold cutB
  split
  · simp [ByteArray.size_extract]; omega
  · omega
theorem cut_calls (s : ByteArray) (n : Nat) (w : World) :
    Calls Try.prog 46 #[.string s, .int .i64 (n : Int)] w fun e w' => e = .returned (.string (cutB s n)) ∧ Drawn0 w w' := by
  refine stewardlaw01_Cut.calls s n _ w ?_
  unfold stewardlaw01_Cut.f cutB
  by_cases h : n < s.size
  · rw [if_pos (by omega), if_pos (by omega), if_pos (by omega), if_pos h, Int.toNat_natCast]
  · rw [if_neg (by omega), if_neg h]

theorem list16 {α : Type} {l : List α} (h : l.length = 16) : ∃ k0 k1 k2 k3 k4 k5 k6 k7 k8 k9 k10 k11 k12 k13 k14 k15, l = [k0, k1, k2, k3, k4, k5, k6, k7, k8, k9, k10, k11, k12, k13, k14, k15] := by
  match l, h with
  | [k0, k1, k2, k3, k4, k5, k6, k7, k8, k9, k10, k11, k12, k13, k14, k15], _ => exact ⟨k0, k1, k2, k3, k4, k5, k6, k7, k8, k9, k10, k11, k12, k13, k14, k15, rfl⟩

theorem blk16 {w : World} {b : Nat} {T : TypeId} {k0 k1 k2 k3 k4 k5 k6 k7 k8 k9 k10 k11 k12 k13 k14 k15 : UInt8} (h : Blk w b T (bcells [k0, k1, k2, k3, k4, k5, k6, k7, k8, k9, k10, k11, k12, k13, k14, k15])) :
    w.cell? ⟨b, 0, none⟩ = some (.int .u8 (k0.toNat : Int)) ∧ w.cell? ⟨b, 1, none⟩ = some (.int .u8 (k1.toNat : Int)) ∧ w.cell? ⟨b, 2, none⟩ = some (.int .u8 (k2.toNat : Int)) ∧ w.cell? ⟨b, 3, none⟩ = some (.int .u8 (k3.toNat : Int)) ∧ w.cell? ⟨b, 4, none⟩ = some (.int .u8 (k4.toNat : Int)) ∧ w.cell? ⟨b, 5, none⟩ = some (.int .u8 (k5.toNat : Int)) ∧ w.cell? ⟨b, 6, none⟩ = some (.int .u8 (k6.toNat : Int)) ∧ w.cell? ⟨b, 7, none⟩ = some (.int .u8 (k7.toNat : Int)) ∧ w.cell? ⟨b, 8, none⟩ = some (.int .u8 (k8.toNat : Int)) ∧ w.cell? ⟨b, 9, none⟩ = some (.int .u8 (k9.toNat : Int)) ∧ w.cell? ⟨b, 10, none⟩ = some (.int .u8 (k10.toNat : Int)) ∧ w.cell? ⟨b, 11, none⟩ = some (.int .u8 (k11.toNat : Int)) ∧ w.cell? ⟨b, 12, none⟩ = some (.int .u8 (k12.toNat : Int)) ∧ w.cell? ⟨b, 13, none⟩ = some (.int .u8 (k13.toNat : Int)) ∧ w.cell? ⟨b, 14, none⟩ = some (.int .u8 (k14.toNat : Int)) ∧ w.cell? ⟨b, 15, none⟩ = some (.int .u8 (k15.toNat : Int)) :=
  ⟨h.cell rfl, h.cell rfl, h.cell rfl, h.cell rfl, h.cell rfl, h.cell rfl, h.cell rfl, h.cell rfl, h.cell rfl, h.cell rfl, h.cell rfl, h.cell rfl, h.cell rfl, h.cell rfl, h.cell rfl, h.cell rfl⟩
theorem strs1 {w : World} {b : Nat} {T : TypeId} {s : ByteArray} (h : Blk w b T [.string s]) : Kd.C Kd.string w (some ⟨b, 0, none⟩) 1 [s] := ⟨rfl, by omega, fun _ => ⟨_, rfl, fun j p hj => by
  rcases j with _ | j
  · simp only [List.getElem?_cons_zero, Option.some.injEq] at hj
    subst hj
    exact ⟨_, rfl, rfl, fun i u hi => by
      rcases i with _ | i
      · simp only [List.getElem?_cons_zero, Option.some.injEq] at hi
        subst hi
        exact h.cell rfl
      · simp at hi⟩
  · simp at hj⟩⟩
/-- A key's bytes as a string. -/
def keyStr (key : List UInt8) : ByteArray := strOfNums (ints key)
theorem keyStr_bytes (key : List UInt8) : strB (keyStr key) = key := by
  unfold strB keyStr
  rw [strOfNums_data]
  unfold ints
  rw [List.map_map]
  conv => rhs; rw [← List.map_id key]
  apply List.map_congr_left
  intro b _
  simp
theorem key_convert {w : World} {b : Nat} {T : TypeId} {key : List UInt8} (h : Blk w b T (bcells key)) (hl : key.length = 16) :
    (convert 80 9 (.slice (some ⟨b, 0, none⟩) 16 16)).run Try.prog w = .ok (.string (keyStr key)) w := by
  refine run_convert_bytes_arg (P := Try.prog) w 80 5 Try.underlying80 Try.underlying5 b 0 16 16 (ints key) (by simp [ints, hl]) (fun i hi => ?_) 9 Try.underlying9
  rw [Nat.zero_add]
  refine h.cell ?_
  simp [bcells, ints, bcell, List.getD, hl, hi]

end Go.Proofs.Ytlmppdpjjkdoaaa.Sip
