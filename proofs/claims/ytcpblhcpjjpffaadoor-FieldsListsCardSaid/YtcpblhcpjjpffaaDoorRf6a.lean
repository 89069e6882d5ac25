/- The document's fields: Is, Drop. Own work of this seat; no condition but on lengths. -/
import Derived.Test.YtcpblhcpjjpffaaDoorRf5a
import Derived.Test.YtcpblhcpjjpffaaDoorFie8
namespace Go.Proofs.YtcpblhcpjjpffaaDoor.Fie
open Go.RowKit Go.Proofs.YtcpblhcpjjpffaaDoor.Kit Go.Proofs.YtcpblhcpjjpffaaDoor.Oct Go.Proofs.YtcpblhcpjjpffaaDoor.Cut
set_option linter.unusedVariables false
set_option linter.unusedSimpArgs false

set_option maxRecDepth 100000 in
theorem ris_calls (n v s : ByteArray) (hn : n.size ≤ 900000) (hs : s.size ≤ 900000) (w : World) : Calls Tryd.prog 51 #[.agg #[.string n, .string v], .string s] w fun e w' => e = .returned (.bool (sameN n s)) ∧ Step (fun _ => False) w w' := by
  have HA := Lib.hid (fun w => rlower_calls n hn w)
  have HB := Lib.hid (fun w => rlower_calls s hs w)
  unfold sameN
  generalize lower n = x at *
  generalize lower s = y at *
  go_enter Tryd.func51, Tryd.ntmps51
  go_upto_region 1 with (fail)
  refine alloc_next (cs := [.string n, .string v]) ?_
  intro w1 hX hs1
  have y0 := hX.cell (i := 0) rfl
  have y1 := hX.cell (i := 1) rfl
  go_wp2_with (first | (go_at_call 72; refine (HA.out _).mono ?_; clear HA; rintro e w2 ⟨rfl, hs2⟩) | (go_at_call 72; refine (HB.out _).mono ?_; rintro e w3 ⟨rfl, hs3⟩))
  go_ret
  exact ⟨rfl, (hs1.same hs2).same hs3⟩
/-- append(s, x) with the one in a new block. -/
theorem app_rf_one {w1 : World} {B : Option Addr} {m cB : Nat} {l : List Fd} (hB : FW w1 29 B m cB l) (hb : m + 1 ≤ 1000000) (x : Fd) :
    ∃ B' c' w', (Builtin.append_ #[34, 34] 34 #[.slice B m cB, .slice (some ⟨w1.heap.size, 0, none⟩) 1 1]).run Tryd.prog (w1.alloc (.cells #[.string x.nm, .string x.vl] 29)) = .ok (.slice B' (m + 1) c') w' ∧ FW w' 29 B' (m + 1) c' (l ++ [x]) ∧ (∀ k, blockOf B' = some k → blockOf B = some k ∨ w1.heap.size ≤ k) ∧ Step (fun k => blockOf B = some k) w1 w' := by
  have hal : Step (fun _ => False) w1 (w1.alloc (.cells #[.string x.nm, .string x.vl] 29)) := (Step.refl _ _).alloc _
  obtain ⟨B5, c5, w5, hap, hB6, hn5, hs5⟩ := app_rf_any (hB.keep hal (fun _ _ h => h)) hb x (blk_new w1 (fdc x) 29)
  have hz6 := hal.size
  refine ⟨B5, c5, w5, hap, hB6, fun k hk => ?_, (hal.mono (fun _ _ h => h.elim)).same hs5⟩
  rcases hn5 with e | ⟨j, e, hj⟩
  · exact .inl (e ▸ hk)
  · rw [hk] at e
    obtain rfl := Option.some.inj e
    exact .inr (by omega)
def rdropF (l : List Fd) (s : ByteArray) : List Fd := l.filter (fun y => !sameN y.nm s)
set_option maxRecDepth 100000 in
set_option maxHeartbeats 2000000 in
theorem rdrop_calls {w : World} {A : Option Addr} {n c : Nat} {l : List Fd} (h : FRd w A n l) (hA : ∀ k, blockOf A = some k → k < w.heap.size) (hn : n ≤ 1000) (hl : ∀ x ∈ l, x.nm.size ≤ 900000) (s : ByteArray) (hs : s.size ≤ 900000) :
    Calls Tryd.prog 18 #[.slice A n c, .string s] w fun e w' => ∃ A' c', e = .returned (.slice A' (rdropF l s).length c') ∧ FW w' 29 A' (rdropF l s).length c' (rdropF l s) ∧ Step (fun _ => False) w w' ∧ (∀ j, blockOf A' = some j → w.heap.size ≤ j) := by
  have hln := h.len
  have HH := Lib.hid h
  have HAB := Lib.hid hA
  have HL := Lib.hid hl
  obtain ⟨r, hr⟩ : ∃ r, rdropF l s = r := ⟨_, rfl⟩
  rw [hr]
  have HR := Lib.hid hr
  clear h hA hl hr
  go_enter Tryd.func18, Tryd.ntmps18
  go_wp2
  go_loopw [5, 11] (fun v5 v11 wr => ∃ (i m : Nat) (B : Option Addr) (cB : Nat), v11 = .int .i64 (i : Int) ∧ v5 = .slice B m cB ∧ i ≤ n ∧ m = (rdropF (l.take i) s).length ∧ FW wr 29 B m cB (rdropF (l.take i) s) ∧ Step (fun _ => False) w wr ∧ (∀ j, blockOf B = some j → w.heap.size ≤ j)) (fun _ v _ => n - (intOf v).toNat)
  case atStart => exact ⟨0, 0, _, _, rfl, rfl, Nat.zero_le _, rfl, fw_empty w _, (Step.refl _ _).alloc _, fun j hj => by have : w.heap.size = j := Option.some.inj hj; omega⟩
  case round =>
    obtain ⟨i, m, B, cB, rfl, rfl, hi, hm, hF, hst, hf⟩ := hrel
    by_cases hin : i < n
    · have hin' : ((i : Int) < (n : Int)) := by omega
      have hml : m ≤ i := by rw [hm]; exact filt_len (fun y => sameN y.nm s) l i
      have hR := HH.out.same hst
      obtain ⟨g, o, rfl⟩ := RSeg.isSome hR (by omega) (by omega)
      have hget : l[i]? = some l[i] := List.getElem?_eq_getElem (by omega)
      obtain ⟨a0, a1⟩ := FRd.cells hR hget
      have HTK := Lib.hid (filt_step (p := fun y => sameN y.nm s) hget)
      have hsz := HL.out l[i] (List.getElem_mem (by omega))
      generalize l[i] = x at *
      clear hR hget HH
      obtain ⟨nm, v⟩ := x
      simp only at a0 a1 hsz
      have HIS := Lib.hid (fun w => ris_calls nm v s hsz hs w)
      have HM := Lib.hid hm
      have HF := Lib.hid (And.intro hF hf)
      have hzr := hst.size
      clear hm hF hf
      go_upto_region 5 with (fail)
      refine alloc_next (cs := [.string nm, .string v]) ?_
      intro w2 hE hs2
      have e0 := hE.cell (i := 0) rfl
      have e1 := hE.cell (i := 1) rfl
      cases hq : sameN nm s with
      | true =>
        have HQ := Lib.hid hq
        simp only [hq, if_true] at HTK
        clear hq
        go_wp2_with (go_at_call 51; refine (HIS.out _).mono ?_; rw [HQ.out]; rintro e w3 ⟨rfl, hs3⟩)
        go_roundw
        case rel =>
          obtain ⟨hF, hf⟩ := HF.out
          have e3 : rdropF (l.take (i + 1)) s = rdropF (l.take i) s := HTK.out
          exact ⟨i + 1, m, B, cB, by go_num, rfl, by omega, by rw [e3]; exact HM.out, by rw [e3]; exact hF.keep (hs2.same hs3) (fun _ _ h => h), (hst.same hs2).same hs3, hf⟩
        case measure => simp [intOf]; omega
      | false =>
        have HQ := Lib.hid hq
        simp only [hq, Bool.false_eq_true, if_false] at HTK
        clear hq
        go_wp2_with (first
          | (go_at_call 51; refine (HIS.out _).mono ?_; rw [HQ.out]; rintro e w3 ⟨rfl, hs3⟩; have f0 := (hE.keep hs3 (fun h => h)).cell (i := 0) rfl; have f1 := (hE.keep hs3 (fun h => h)).cell (i := 1) rfl; obtain ⟨B', c', w4, hap, hF4, hf4, hs4⟩ := app_rf_one (HF.out.1.keep (hs2.same hs3) (fun _ _ h => h)) (by omega) ⟨nm, v⟩; have HX := Lib.hid (And.intro hF4 (And.intro hf4 hs4)); clear hF4 hf4 hs4)
          | (at_builtin; refine wpList_app1 (by rfl) (.tmp 19) (.tmp 21) 34 (by rfl) (by rfl) (by rfl) hap ?_))
        go_roundw
        case rel =>
          obtain ⟨hF, hf⟩ := HF.out
          obtain ⟨hF4, hf4, hs4⟩ := HX.out
          have e3 : rdropF (l.take (i + 1)) s = rdropF (l.take i) s ++ [⟨nm, v⟩] := HTK.out
          have hz3 := (hs2.same hs3).size
          exact ⟨i + 1, m + 1, B', c', by go_num, rfl, by omega, by rw [e3, List.length_append, ← HM.out]; rfl, by rw [e3]; exact hF4, ((hst.same hs2).same hs3).trans hs4 (fun j hj h => by have := hf _ h; omega), fun j hj => (hf4 j hj).elim (hf j) (fun h => by omega)⟩
        case measure => simp [intOf]; omega
    · have hin' : ¬ ((i : Int) < (n : Int)) := by omega
      obtain rfl : i = n := by omega
      have hfin : rdropF (l.take i) s = r := by rw [← hln, List.take_length]; exact HR.out
      rw [hfin] at hm hF
      clear hfin
      have HX := Lib.hid (And.intro hm (And.intro hF hf))
      clear hm hF hf
      go_wp2
      go_ret
      obtain ⟨hm, hF, hf⟩ := HX.out
      subst hm
      exact ⟨B, cB, rfl, hF, hst, hf⟩
end Go.Proofs.YtcpblhcpjjpffaaDoor.Fie
