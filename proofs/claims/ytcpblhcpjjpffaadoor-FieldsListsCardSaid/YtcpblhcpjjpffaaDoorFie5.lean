/- fields: Text, Add. Own work of this seat; no condition but on lengths. -/
import Derived.Test.YtcpblhcpjjpffaaDoorFie4
namespace Go.Proofs.YtcpblhcpjjpffaaDoor.Fie
open Go.RowKit Go.Proofs.YtcpblhcpjjpffaaDoor.Kit Go.Proofs.YtcpblhcpjjpffaaDoor.Oct Go.Proofs.YtcpblhcpjjpffaaDoor.Cut
set_option linter.unusedVariables false
set_option linter.unusedSimpArgs false

theorem bf_step {T e : TypeId} {B b : Nat} {p : Value} {bs : List Value} {w w' : World} (h : Lib.BuilderAtF T e B b p bs w) (hs : Step (fun _ => False) w w') : Lib.BuilderAtF T e B b p bs w' := by
  have hl := h.lt
  obtain ⟨h1, v, h2, h3, h4⟩ := h
  refine ⟨h1, v, (hs.block b hl (fun h => h)).trans h2, ⟨h3.1, ?_⟩, h4⟩
  rcases h3.2 with hn | ⟨g, cap, cur, fz, r1, r2, r3, r4⟩
  · exact .inl hn
  · exact .inr ⟨g, cap, cur, fz, r1, r2, (hs.block g (lt_of_block r3) (fun h => h)).trans r3, r4⟩
theorem isb_step {T e : TypeId} {B b : Nat} {bs : List Value} {w w' : World} (h : Lib.IsBuilderF T e B b bs w) (hs : Step (fun _ => False) w w') : Lib.IsBuilderF T e B b bs w' := h.elim (fun h => .inl (bf_step h hs)) (fun h => .inr (bf_step h hs))
theorem isb_lt {T e : TypeId} {B b : Nat} {bs : List Value} {w : World} (h : Lib.IsBuilderF T e B b bs w) : b < w.heap.size := h.elim (fun h => h.lt) (fun h => h.lt)
def textL (l : List Fd) : List UInt8 := l.flatMap (fun x => bts (lineB x.nm x.vl))
theorem textL_take {l : List Fd} {i : Nat} {x : Fd} (h : l[i]? = some x) : textL (l.take (i + 1)) = textL (l.take i) ++ bts (lineB x.nm x.vl) := by
  rw [List.take_add_one, h]
  simp [textL]
theorem lineB_size (n v : ByteArray) : (lineB n v).size = n.size + v.size + 4 := by
  unfold lineB
  simp only [ByteArray.size_append]
  have h1 : (⟨#[58, 32]⟩ : ByteArray).size = 2 := rfl
  have h2 : (⟨#[13, 10]⟩ : ByteArray).size = 2 := rfl
  rw [h1, h2]
  omega
theorem textL_len (l : List Fd) (h : Sml l) : ∀ i, i ≤ l.length → (textL (l.take i)).length ≤ i * 3000000
  | 0, _ => by simp [textL]
  | i + 1, hi => by
    have hx : l[i]? = some l[i] := List.getElem?_eq_getElem (by omega)
    rw [textL_take hx, List.length_append, bts_len, lineB_size]
    have := h l[i] (List.getElem_mem (by omega))
    have := textL_len l h i (by omega)
    omega
set_option maxRecDepth 100000 in
set_option maxHeartbeats 2000000 in
theorem text_calls {w : World} {A : Option Addr} {n c : Nat} {l : List Fd} (h : FRd w A n l) (hA : ∀ k, blockOf A = some k → k < w.heap.size) (hn : n ≤ 1000000) (hl : Sml l) :
    Calls Tryd.prog 39 #[.slice A n c] w fun e w' => e = .returned (.string (ofL (textL l))) ∧ Step (fun _ => False) w w' := by
  have hln := h.len
  have HH := Lib.hid h
  obtain ⟨r, hr⟩ : ∃ r, textL l = r := ⟨_, rfl⟩
  rw [hr]
  have HR := Lib.hid hr
  have HT := Lib.hid (textL_len l hl)
  have HAB := Lib.hid hA
  have HSM := Lib.hid hl
  clear hr h hA hl
  go_enter Tryd.func39, Tryd.ntmps39
  go_upto_region 2 with (fail)
  have hB0 := Lib.IsBuilderF.of (Lib.fresh_isBuilder 83 5 w)
  have hs0 : Step (fun _ => False) w (w.alloc (.cells #[.pointer none, .slice none 0 0] 83)) := (Step.refl _ _).alloc _
  generalize (w.alloc (.cells #[.pointer none, .slice none 0 0] 83)) = w1 at *
  obtain ⟨b, hb⟩ : ∃ b, w.heap.size = b := ⟨_, rfl⟩
  rw [hb] at hB0 HAB ⊢
  have HBB := Lib.hid hb
  have HB0 := Lib.hid hB0
  have HS0 := Lib.hid hs0
  clear hB0 hs0 hb
  go_wp2
  go_loopw [8] (fun v8 wr => ∃ (i : Nat), v8 = .int .i64 (i : Int) ∧ i ≤ n ∧ Lib.IsBuilderF 83 5 b b (Lib.byteCells (textL (l.take i))) wr ∧ Step (fun _ => False) w wr) (fun v _ => n - (intOf v).toNat)
  case atStart => exact ⟨0, rfl, Nat.zero_le _, HB0.out, HS0.out⟩
  case round =>
    obtain ⟨i, rfl, hi, hBi, hst⟩ := hrel
    by_cases hin : i < n
    · have hin' : ((i : Int) < (n : Int)) := by omega
      have hR := HH.out.same hst
      obtain ⟨g, o, rfl⟩ := RSeg.isSome hR (by omega) (by omega)
      have hget : l[i]? = some l[i] := List.getElem?_eq_getElem (by omega)
      obtain ⟨a0, a1⟩ := FRd.cells hR hget
      have hsm := HSM.out l[i] (List.getElem_mem (by omega))
      have HTK := Lib.hid (textL_take hget)
      have htl := HT.out i (by omega)
      generalize l[i] = x at *
      obtain ⟨m, v⟩ := x
      simp only at a0 a1 hsm
      have HLI := Lib.hid (fun w => line_calls m v hsm.1 hsm.2 w)
      have HLS := Lib.hid (lineB_size m v)
      have HBI := Lib.hid hBi
      clear hR hget HH hBi
      go_upto_region 5 with (fail)
      refine alloc_next (cs := [.string m, .string v]) ?_
      intro w2 hE hs2
      have e0 := hE.cell (i := 0) rfl
      have e1 := hE.cell (i := 1) rfl
      have hst2 := hst.same hs2
      go_wp2_with (first
        | (go_at_call 14; refine (HLI.out _).mono ?_; rintro e w3 ⟨rfl, hs3⟩)
        | (go_at_call 63; refine (Any.Builder_WriteString_k Tryd.wrL Tryd.wrLX b b (Lib.byteCells (textL (l.take i))) (lineB m v) w3 (isb_step (isb_step HBI.out hs2) hs3) (by have := HLS.out; rw [Lib.byteCells_length]; omega) (by have := hst2.size; have := hs3.size; have := HBB.out; omega)).mono ?_; rintro e w4 ⟨rfl, hB4, hbel4, _⟩))
      go_roundw
      case rel =>
        refine ⟨i + 1, by go_num, by omega, ?_, ?_⟩
        · rw [HTK.out, Lib.byteCells_append]
          exact .inr hB4
        · have hz := (hst2.same hs3).size
          have hb3 := HBB.out
          exact (hst2.same hs3).trans (Step.mono (F := fun k => b ≤ k) ⟨hbel4.os, hbel4.tape, hbel4.output, hbel4.size, fun k hk hnk => hbel4.block k (by omega)⟩ (fun _ _ h => h)) (fun j hj h => by omega)
      case measure => simp [intOf]; omega
    · have hin' : ¬ ((i : Int) < (n : Int)) := by omega
      obtain rfl : i = n := by omega
      have hBi2 : Lib.IsBuilderF 83 5 b b (Lib.byteCells r) wr := by
        have h := hBi
        rw [← hln, List.take_length, HR.out] at h
        exact h
      have HBI := Lib.hid hBi2
      clear hBi hBi2
      have hz := hst.size
      have hb3 := HBB.out
      go_wp2_with (go_at_call 62; refine (Any.Builder_String_any_k Tryd.stL Tryd.stLX b b r wr HBI.out (by omega)).mono ?_; rintro e w4 ⟨rfl, _, hbel4, _⟩)
      go_ret
      exact ⟨rfl, hst.trans (Step.mono (F := fun k => b ≤ k) ⟨hbel4.os, hbel4.tape, hbel4.output, hbel4.size, fun k hk hnk => hbel4.block k (by omega)⟩ (fun _ _ h => h)) (fun j hj h => by omega)⟩
end Go.Proofs.YtcpblhcpjjpffaaDoor.Fie
