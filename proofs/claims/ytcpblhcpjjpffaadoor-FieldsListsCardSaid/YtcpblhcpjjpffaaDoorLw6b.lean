/- law 01's Few over strings. Own work of this seat; no condition but on lengths. -/
import Derived.Test.YtcpblhcpjjpffaaDoorFie11
import Derived.Test.YtcpblhcpjjpffaaDoorLw6a
namespace Go.Proofs.YtcpblhcpjjpffaaDoor.Fie
open Go.RowKit Go.Proofs.YtcpblhcpjjpffaaDoor.Kit Go.Proofs.YtcpblhcpjjpffaaDoor.Oct Go.Proofs.YtcpblhcpjjpffaaDoor.Cut
set_option linter.unusedVariables false
set_option linter.unusedSimpArgs false

def SW (w : World) (A : Option Addr) (n c : Nat) (l : List ByteArray) : Prop := FSeg w 9 1 A n c (l.map Value.string)
theorem i0st : ∃ i, Tryd.prog.info? 9 = some i ∧ i.zero = some (.string ⟨#[]⟩) ∧ i.size = 1 ∧ i.bytes = 16 := by
  obtain ⟨i, hi, hp⟩ := Option.map_eq_some_iff.1 (by kernel_rfl : (Tryd.prog.info? 9).map (fun i => (i.zero, i.size, i.bytes)) = some (some (.string ⟨#[]⟩), 1, 16))
  simp only [Prod.mk.injEq] at hp
  exact ⟨i, hi, hp⟩
/-- append(s, x) with the one in a new block. -/
theorem app_st_one {w1 : World} {B : Option Addr} {m cB : Nat} {l : List ByteArray} (hB : SW w1 B m cB l) (hb : m + 1 ≤ 1000000) (x : ByteArray) :
    ∃ B' c' w', (Builtin.append_ #[35, 35] 35 #[.slice B m cB, .slice (some ⟨w1.heap.size, 0, none⟩) 1 1]).run Tryd.prog (w1.alloc (.cells #[.string x] 9)) = .ok (.slice B' (m + 1) c') w' ∧ SW w' B' (m + 1) c' (l ++ [x]) ∧ (∀ k, blockOf B' = some k → blockOf B = some k ∨ w1.heap.size ≤ k) ∧ Step (fun k => blockOf B = some k) w1 w' := by
  obtain ⟨i0, hi0, hz0, hs0, hy0⟩ := i0st
  have hal : Step (fun _ => False) w1 (w1.alloc (.cells #[.string x] 9)) := (Step.refl _ _).alloc _
  obtain ⟨B5, c5, w5, hap, hB6, hs5, hn5⟩ := run_app_one (k := 1) (v := [Value.string x]) 35 9 Tryd.underlying35 hi0 hz0 rfl hs0 hy0 (by omega) (hB.keep hal (fun _ _ h => h)) rfl (by intro v hv; simp at hv; subst hv; rfl) (blk_new w1 [Value.string x] 9) hb
  have hz6 := hal.size
  refine ⟨B5, c5, w5, hap, by unfold SW; rw [List.map_append]; exact hB6, fun k hk => ?_, (hal.mono (fun _ _ h => h.elim)).same hs5⟩
  rcases hn5 with e | ⟨j, e, hj⟩
  · exact .inl (e ▸ hk)
  · rw [hk] at e
    obtain rfl := Option.some.inj e
    exact .inr (by omega)
/-- A row of strings that came in. -/
def ASd (w : World) (A : Option Addr) (n : Nat) (l : List ByteArray) : Prop := l.length = n ∧ ∀ (i : Nat) x, l[i]? = some x → ∃ ad : Addr, A = some ad ∧ ∀ w', Below w.heap.size w w' → w'.cell? (ad.add i) = some (.string x)
def fewS (l : List ByteArray) (k m : Nat) : List ByteArray := (l.take k).map (fun x => cutB x m)
theorem fewS_step {l : List ByteArray} {i m : Nat} {x : ByteArray} (h : l[i]? = some x) : (l.take (i + 1)).map (fun x => cutB x m) = (l.take i).map (fun x => cutB x m) ++ [cutB x m] := by
  rw [List.take_add_one, h]
  simp
set_option maxRecDepth 100000 in
set_option maxHeartbeats 2000000 in
theorem fews_calls {w0 w : World} {A : Option Addr} {n c : Nat} {k m : Nat} {l : List ByteArray} (h : ASd w0 A n l) (hb : Below w0.heap.size w0 w) (hc : n ≤ c) (hk : k ≤ 1000) (hl : ∀ x ∈ l, x.size ≤ 9223372036854775807) :
    Calls Tryd.prog 17 #[.slice A n c, .int .i64 k, .int .i64 m] w fun e w' => ∃ A' j c', e = .returned (.slice A' j c') ∧ j ≤ k ∧ SW w' A' j c' (fewS l k m) ∧ Step (fun _ => False) w w' ∧ (∀ j, blockOf A' = some j → w.heap.size ≤ j) := by
  have hln := h.1
  have HH := Lib.hid h.2
  have HB := Lib.hid hb
  have HL := Lib.hid hl
  obtain ⟨r, hr⟩ : ∃ r, fewS l k m = r := ⟨_, rfl⟩
  rw [hr]
  have HR := Lib.hid hr
  have hbz := hb.size
  clear h hb hl hr
  go_enter Tryd.func17, Tryd.ntmps17
  go_wp2
  go_loopw [7, 8] (fun v7 v8 wr => ∃ (i : Nat) (B : Option Addr) (cB : Nat), v8 = .int .i64 (i : Int) ∧ v7 = .slice B i cB ∧ i ≤ n ∧ i ≤ k ∧ SW wr B i cB ((l.take i).map (fun x => cutB x m)) ∧ Step (fun _ => False) w wr ∧ (∀ j, blockOf B = some j → w.heap.size ≤ j)) (fun _ v _ => k - (intOf v).toNat)
  case atStart => exact ⟨0, none, 0, rfl, rfl, Nat.zero_le _, Nat.zero_le _, fseg_nil _ _ _, Step.refl _ _, fun j hj => by cases hj⟩
  case round =>
    obtain ⟨i, B, cB, rfl, rfl, hin0, hik0, hF, hst, hf⟩ := hrel
    by_cases hgo : i < n ∧ i < k
    · obtain ⟨hin, hik⟩ := hgo
      have hin' : ((i : Int) < (n : Int)) := by omega
      have hik' : ((i : Int) < (k : Int)) := by omega
      have hget : l[i]? = some l[i] := List.getElem?_eq_getElem (by omega)
      obtain ⟨ad, rfl, hcell⟩ := HH.out i l[i] hget
      have hsz := HL.out l[i] (List.getElem_mem (by omega))
      have HNX := Lib.hid (fewS_step (m := m) hget)
      generalize l[i] = x at *
      have a0 := hcell wr (HB.out.trans (hst.below hbz (fun _ h => h.elim)))
      have HC0 := Lib.hid (fun w' => cut_calls x m hsz w')
      generalize cutB x m = y at *
      obtain ⟨B', c', w3, hap, hF3, hf3, hs3⟩ := app_st_one hF (by omega) y
      have HX := Lib.hid (And.intro hF3 (And.intro hf3 hs3))
      have HF := Lib.hid hf
      have hzr := hst.size
      clear hget hcell hF hF3 hf3 hs3 hf HH
      go_wp2_with (first
        | (go_at_call 11; refine (HC0.out _).mono ?_; rintro e w' ⟨rfl, rfl⟩)
        | (at_builtin; refine wpList_app1 (by rfl) (.tmp 20) (.tmp 27) 35 (by rfl) (by rfl) (by rfl) hap ?_))
      go_roundw
      case rel =>
        obtain ⟨hF3, hf3, hs3⟩ := HX.out
        have hf := HF.out
        exact ⟨i + 1, B', c', by go_num, rfl, by omega, by omega, by rw [HNX.out]; exact hF3, hst.trans hs3 (fun j hj h => by have := hf _ h; omega), fun j hj => (hf3 j hj).elim (hf j) (fun h => by omega)⟩
      case measure => simp [intOf]; omega
    · have hfin : (l.take i).map (fun x => cutB x m) = r := by
        rw [← HR.out]
        unfold fewS
        by_cases e : i < n
        · have : i = k := by omega
          rw [this]
        · rw [List.take_of_length_le (by omega), List.take_of_length_le (by omega)]
      rw [hfin] at hF
      have hends : ¬ i < n ∨ (i < n ∧ ¬ i < k) := by omega
      have HX := Lib.hid (And.intro hF hf)
      clear hF hf hfin HH
      rcases hends with h1 | ⟨h1, h2⟩
      · have q1 : ((i : Int) < (n : Int)) = False := eq_false (by omega)
        go_wp2
        go_ret
        exact ⟨B, i, cB, rfl, hik0, HX.out.1, hst, HX.out.2⟩
      · have q1 : ((i : Int) < (n : Int)) = True := eq_true (by omega)
        have q2 : ((i : Int) < (k : Int)) = False := eq_false (by omega)
        go_wp2
        go_ret
        exact ⟨B, i, cB, rfl, hik0, HX.out.1, hst, HX.out.2⟩
end Go.Proofs.YtcpblhcpjjpffaaDoor.Fie
