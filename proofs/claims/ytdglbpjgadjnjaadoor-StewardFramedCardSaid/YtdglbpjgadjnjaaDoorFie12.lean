/- fields and the document: All; Get, Has, Size; Same of law 05. Own work of this seat; no condition but on lengths. -/
import Derived.Test.YtdglbpjgadjnjaaDoorRf6p
import Derived.Test.YtdglbpjgadjnjaaDoorLw6b
namespace Go.Proofs.YtdglbpjgadjnjaaDoor.Fie
open Go.RowKit Go.Proofs.YtdglbpjgadjnjaaDoor.Kit Go.Proofs.YtdglbpjgadjnjaaDoor.Oct Go.Proofs.YtdglbpjgadjnjaaDoor.Cut
set_option linter.unusedVariables false
set_option linter.unusedSimpArgs false

def allF (l : List Fd) (s : ByteArray) : List ByteArray := (l.filter (fun x => sameN x.nm s)).map Fd.vl
theorem allF_step {l : List Fd} {s : ByteArray} {j : Nat} {x : Fd} (h : l[j]? = some x) : allF (l.take (j + 1)) s = if sameN x.nm s = true then allF (l.take j) s ++ [x.vl] else allF (l.take j) s := by
  unfold allF
  rw [List.take_add_one, h, List.filter_append, List.map_append]
  cases hp : sameN x.nm s <;> simp [hp]
theorem allF_len (l : List Fd) (s : ByteArray) (j : Nat) : (allF (l.take j) s).length ≤ j := by
  unfold allF
  rw [List.length_map]
  exact Nat.le_trans (List.length_filter_le _ _) (by rw [List.length_take]; omega)
theorem allF_mem {l : List Fd} {s v : ByteArray} (h : v ∈ allF l s) : ∃ x ∈ l, x.vl = v := by
  obtain ⟨x, hx, e⟩ := List.mem_map.1 h
  exact ⟨x, (List.mem_filter.1 hx).1, e⟩
theorem sw_empty (w : World) : SW (w.alloc (.cells #[] 9)) (some ⟨w.heap.size, 0, none⟩) 0 0 [] := fw_empty w _
theorem SW.len {w : World} {A : Option Addr} {n c : Nat} {l : List ByteArray} (h : SW w A n c l) : l.length = n := by have := h.1; rw [List.length_map] at this; omega
theorem SW.rd {w : World} {A : Option Addr} {n c : Nat} {l : List ByteArray} (h : SW w A n c l) : SRd w A n l := FSeg.rseg h
set_option maxRecDepth 100000 in
set_option maxHeartbeats 2000000 in
theorem all_calls {w : World} {A : Option Addr} {n c : Nat} {l : List Fd} (h : FRd w A n l) (hA : ∀ k, blockOf A = some k → k < w.heap.size) (hn : n ≤ 1000) (hl : ∀ x ∈ l, x.nm.size ≤ 900000) (s : ByteArray) (hs : s.size ≤ 900000) :
    Calls Tryd.prog 23 #[.slice A n c, .string s] w fun e w' => ∃ A' c', e = .returned (.slice A' (allF l s).length c') ∧ SW w' A' (allF l s).length c' (allF l s) ∧ Step (fun _ => False) w w' ∧ (∀ j, blockOf A' = some j → w.heap.size ≤ j) := by
  have hln := h.len
  have HH := Lib.hid h
  have HAB := Lib.hid hA
  have HL := Lib.hid hl
  obtain ⟨r, hr⟩ : ∃ r, allF l s = r := ⟨_, rfl⟩
  rw [hr]
  have HR := Lib.hid hr
  clear h hA hl hr
  go_enter Tryd.func23, Tryd.ntmps23
  go_wp2
  go_loopw [5, 10] (fun v5 v11 wr => ∃ (i m : Nat) (B : Option Addr) (cB : Nat), v11 = .int .i64 (i : Int) ∧ v5 = .slice B m cB ∧ i ≤ n ∧ m = (allF (l.take i) s).length ∧ SW wr B m cB (allF (l.take i) s) ∧ Step (fun _ => False) w wr ∧ (∀ j, blockOf B = some j → w.heap.size ≤ j)) (fun _ v _ => n - (intOf v).toNat)
  case atStart => exact ⟨0, 0, none, 0, rfl, rfl, Nat.zero_le _, rfl, fseg_nil _ _ _, Step.refl _ _, fun j hj => by cases hj⟩
  case round =>
    obtain ⟨i, m, B, cB, rfl, rfl, hi, hm, hF, hst, hf⟩ := hrel
    by_cases hin : i < n
    · have hin' : ((i : Int) < (n : Int)) := by omega
      have hml : m ≤ i := by rw [hm]; exact allF_len l s i
      have hR := HH.out.same hst
      obtain ⟨g, o, rfl⟩ := RSeg.isSome hR (by omega) (by omega)
      have hget : l[i]? = some l[i] := List.getElem?_eq_getElem (by omega)
      obtain ⟨a0, a1⟩ := FRd.cells hR hget
      have HTK := Lib.hid (allF_step (s := s) hget)
      have hsz := HL.out l[i] (List.getElem_mem (by omega))
      generalize l[i] = x at *
      clear hR hget HH
      obtain ⟨nm, v⟩ := x
      simp only at a0 a1 hsz
      have HIS := Lib.hid (fun w => is_calls nm v s (by omega) (by omega) w)
      have HM := Lib.hid hm
      have HF := Lib.hid (And.intro hF hf)
      have hzr := hst.size
      clear hm hF hf
      go_upto_region 5 with (fail)
      refine alloc_next (cs := [.string nm, .string v]) ?_
      intro w2 hE hs2
      have e0 := hE.cell (i := 0) rfl
      have e1 := hE.cell (i := 1) rfl
      cases hq : sameN nm s with
      | false =>
        have HQ := Lib.hid hq
        simp only [hq, Bool.false_eq_true, if_false] at HTK
        clear hq
        go_wp2_with (go_at_call 34; refine (HIS.out _).mono ?_; rw [show ((lower nm).toList == (lower s).toList) = sameN nm s from rfl, HQ.out]; rintro e w3 ⟨rfl, hs3⟩)
        go_roundw
        case rel =>
          obtain ⟨hF, hf⟩ := HF.out
          have e3 : allF (l.take (i + 1)) s = allF (l.take i) s := HTK.out
          exact ⟨i + 1, m, B, cB, by go_num, rfl, by omega, by rw [e3]; exact HM.out, by rw [e3]; exact hF.keep (hs2.same hs3) (fun _ _ h => h), (hst.same hs2).same hs3, hf⟩
        case measure => simp [intOf]; omega
      | true =>
        have HQ := Lib.hid hq
        simp only [hq, if_true] at HTK
        clear hq
        go_wp2_with (first
          | (go_at_call 34; refine (HIS.out _).mono ?_; rw [show ((lower nm).toList == (lower s).toList) = sameN nm s from rfl, HQ.out]; rintro e w3 ⟨rfl, hs3⟩; have f0 := (hE.keep hs3 (fun h => h)).cell (i := 0) rfl; have f1 := (hE.keep hs3 (fun h => h)).cell (i := 1) rfl; obtain ⟨B', c', w4, hap, hF4, hf4, hs4⟩ := app_st_one (HF.out.1.keep (hs2.same hs3) (fun _ _ h => h)) (by omega) v; have HX := Lib.hid (And.intro hF4 (And.intro hf4 hs4)); clear hF4 hf4 hs4)
          | (at_builtin; refine wpList_app1 (by rfl) (.tmp 17) (.tmp 20) 46 (by rfl) (by rfl) (by rfl) hap ?_))
        go_roundw
        case rel =>
          obtain ⟨hF, hf⟩ := HF.out
          obtain ⟨hF4, hf4, hs4⟩ := HX.out
          have e3 : allF (l.take (i + 1)) s = allF (l.take i) s ++ [v] := HTK.out
          have hz3 := (hs2.same hs3).size
          exact ⟨i + 1, m + 1, B', c', by go_num, rfl, by omega, by rw [e3, List.length_append, ← HM.out]; rfl, by rw [e3]; exact hF4, ((hst.same hs2).same hs3).trans hs4 (fun j hj h => by have := hf _ h; omega), fun j hj => (hf4 j hj).elim (hf j) (fun h => by omega)⟩
        case measure => simp [intOf]; omega
    · have hin' : ¬ ((i : Int) < (n : Int)) := by omega
      obtain rfl : i = n := by omega
      have hfin : allF (l.take i) s = r := by rw [← hln, List.take_length]; exact HR.out
      rw [hfin] at hm hF
      clear hfin
      have HX := Lib.hid (And.intro hm (And.intro hF hf))
      clear hm hF hf
      go_wp2
      go_ret
      obtain ⟨hm, hF, hf⟩ := HX.out
      subst hm
      exact ⟨B, cB, rfl, hF, hst, hf⟩
set_option maxRecDepth 100000 in
set_option maxHeartbeats 2000000 in
theorem rall_calls {w : World} {A : Option Addr} {n c : Nat} {l : List Fd} (h : FRd w A n l) (hA : ∀ k, blockOf A = some k → k < w.heap.size) (hn : n ≤ 1000) (hl : ∀ x ∈ l, x.nm.size ≤ 900000) (s : ByteArray) (hs : s.size ≤ 900000) :
    Calls Tryd.prog 20 #[.slice A n c, .string s] w fun e w' => ∃ A' c', e = .returned (.slice A' (allF l s).length c') ∧ SW w' A' (allF l s).length c' (allF l s) ∧ Step (fun _ => False) w w' ∧ (∀ j, blockOf A' = some j → w.heap.size ≤ j) := by
  have hln := h.len
  have HH := Lib.hid h
  have HAB := Lib.hid hA
  have HL := Lib.hid hl
  obtain ⟨r, hr⟩ : ∃ r, allF l s = r := ⟨_, rfl⟩
  rw [hr]
  have HR := Lib.hid hr
  clear h hA hl hr
  go_enter Tryd.func20, Tryd.ntmps20
  go_wp2
  go_loopw [5, 11] (fun v5 v11 wr => ∃ (i m : Nat) (B : Option Addr) (cB : Nat), v11 = .int .i64 (i : Int) ∧ v5 = .slice B m cB ∧ i ≤ n ∧ m = (allF (l.take i) s).length ∧ SW wr B m cB (allF (l.take i) s) ∧ Step (fun _ => False) w wr ∧ (∀ j, blockOf B = some j → w.heap.size ≤ j)) (fun _ v _ => n - (intOf v).toNat)
  case atStart => exact ⟨0, 0, _, _, rfl, rfl, Nat.zero_le _, rfl, sw_empty w, (Step.refl _ _).alloc _, fun j hj => by have : w.heap.size = j := Option.some.inj hj; omega⟩
  case round =>
    obtain ⟨i, m, B, cB, rfl, rfl, hi, hm, hF, hst, hf⟩ := hrel
    by_cases hin : i < n
    · have hin' : ((i : Int) < (n : Int)) := by omega
      have hml : m ≤ i := by rw [hm]; exact allF_len l s i
      have hR := HH.out.same hst
      obtain ⟨g, o, rfl⟩ := RSeg.isSome hR (by omega) (by omega)
      have hget : l[i]? = some l[i] := List.getElem?_eq_getElem (by omega)
      obtain ⟨a0, a1⟩ := FRd.cells hR hget
      have HTK := Lib.hid (allF_step (s := s) hget)
      have hsz := HL.out l[i] (List.getElem_mem (by omega))
      generalize l[i] = x at *
      clear hR hget HH
      obtain ⟨nm, v⟩ := x
      simp only at a0 a1 hsz
      have HIS := Lib.hid (fun w => ris_calls nm v s (by omega) (by omega) w)
      have HM := Lib.hid hm
      have HF := Lib.hid (And.intro hF hf)
      have hzr := hst.size
      clear hm hF hf
      go_upto_region 5 with (fail)
      refine alloc_next (cs := [.string nm, .string v]) ?_
      intro w2 hE hs2
      have e0 := hE.cell (i := 0) rfl
      have e1 := hE.cell (i := 1) rfl
      cases hq : sameN nm s with
      | false =>
        have HQ := Lib.hid hq
        simp only [hq, Bool.false_eq_true, if_false] at HTK
        clear hq
        go_wp2_with (go_at_call 33; refine (HIS.out _).mono ?_; rw [HQ.out]; rintro e w3 ⟨rfl, hs3⟩)
        go_roundw
        case rel =>
          obtain ⟨hF, hf⟩ := HF.out
          have e3 : allF (l.take (i + 1)) s = allF (l.take i) s := HTK.out
          exact ⟨i + 1, m, B, cB, by go_num, rfl, by omega, by rw [e3]; exact HM.out, by rw [e3]; exact hF.keep (hs2.same hs3) (fun _ _ h => h), (hst.same hs2).same hs3, hf⟩
        case measure => simp [intOf]; omega
      | true =>
        have HQ := Lib.hid hq
        simp only [hq, if_true] at HTK
        clear hq
        go_wp2_with (first
          | (go_at_call 33; refine (HIS.out _).mono ?_; rw [HQ.out]; rintro e w3 ⟨rfl, hs3⟩; have f0 := (hE.keep hs3 (fun h => h)).cell (i := 0) rfl; have f1 := (hE.keep hs3 (fun h => h)).cell (i := 1) rfl; obtain ⟨B', c', w4, hap, hF4, hf4, hs4⟩ := app_st_one (HF.out.1.keep (hs2.same hs3) (fun _ _ h => h)) (by omega) v; have HX := Lib.hid (And.intro hF4 (And.intro hf4 hs4)); clear hF4 hf4 hs4)
          | (at_builtin; refine wpList_app1 (by rfl) (.tmp 18) (.tmp 21) 46 (by rfl) (by rfl) (by rfl) hap ?_))
        go_roundw
        case rel =>
          obtain ⟨hF, hf⟩ := HF.out
          obtain ⟨hF4, hf4, hs4⟩ := HX.out
          have e3 : allF (l.take (i + 1)) s = allF (l.take i) s ++ [v] := HTK.out
          have hz3 := (hs2.same hs3).size
          exact ⟨i + 1, m + 1, B', c', by go_num, rfl, by omega, by rw [e3, List.length_append, ← HM.out]; rfl, by rw [e3]; exact hF4, ((hst.same hs2).same hs3).trans hs4 (fun j hj h => by have := hf _ h; omega), fun j hj => (hf4 j hj).elim (hf j) (fun h => by omega)⟩
        case measure => simp [intOf]; omega
    · have hin' : ¬ ((i : Int) < (n : Int)) := by omega
      obtain rfl : i = n := by omega
      have hfin : allF (l.take i) s = r := by rw [← hln, List.take_length]; exact HR.out
      rw [hfin] at hm hF
      clear hfin
      have HX := Lib.hid (And.intro hm (And.intro hF hf))
      clear hm hF hf
      go_wp2
      go_ret
      obtain ⟨hm, hF, hf⟩ := HX.out
      subst hm
      exact ⟨B, cB, rfl, hF, hst, hf⟩
def headB (l : List ByteArray) : ByteArray := match l with | [] => ⟨#[]⟩ | x :: _ => x
def someB (l : List ByteArray) : Bool := match l with | [] => false | _ :: _ => true
theorem len_some (l : List ByteArray) : decide (0 < l.length) = someB l := by
  cases l with
  | nil => rfl
  | cons x r => exact decide_eq_true (by rw [List.length_cons]; omega)
set_option maxRecDepth 100000 in
theorem has_calls {w : World} {A : Option Addr} {n c : Nat} {l : List Fd} (h : FRd w A n l) (hA : ∀ k, blockOf A = some k → k < w.heap.size) (hn : n ≤ 1000) (hl : ∀ x ∈ l, x.nm.size ≤ 900000) (s : ByteArray) (hs : s.size ≤ 900000) :
    Calls Tryd.prog 10 #[.slice A n c, .string s] w fun e w' => e = .returned (.bool (someB (allF l s))) ∧ Step (fun _ => False) w w' := by
  have HA := Lib.hid (all_calls (c := c) h hA hn hl s hs)
  clear h hA hl
  generalize allF l s = r at *
  have hb := len_some r
  generalize someB r = b at *
  obtain ⟨m, hm⟩ : ∃ m, r.length = m := ⟨_, rfl⟩
  rw [hm] at HA hb
  clear hm
  subst hb
  go_enter Tryd.func10, Tryd.ntmps10
  go_wp2_with (go_at_call 23; refine HA.out.mono ?_; rintro e w1 ⟨A1, c1, rfl, hF1, hs1, _⟩)
  go_ret
  exact ⟨by first | rfl | simp, hs1⟩
theorem bs_same (s : ByteArray) : (s.toList == s.toList) = true := by simp
end Go.Proofs.YtdglbpjgadjnjaaDoor.Fie
