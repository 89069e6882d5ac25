/- The document's fields: Set, Text. Own work of this seat; no condition but on lengths. -/
import Derived.Test.YtcpblhcpjjpffaaDoorFie12
import Derived.Test.YtcpblhcpjjpffaaDoorLw6p
namespace Go.Proofs.YtcpblhcpjjpffaaDoor.Fie
open Go.RowKit Go.Proofs.YtcpblhcpjjpffaaDoor.Kit Go.Proofs.YtcpblhcpjjpffaaDoor.Oct Go.Proofs.YtcpblhcpjjpffaaDoor.Cut
set_option linter.unusedVariables false
set_option linter.unusedSimpArgs false

theorem ofL_app (a : List UInt8) (t : ByteArray) : ofL (a ++ bts t) = ofL a ++ t := bts_inj (by rw [bts_app, bts_ofL, bts_ofL])
theorem textL_size {l : List Fd} (hl : Sml l) : ∀ i, i ≤ l.length → (textL (l.take i)).length ≤ 2000004 * i := by
  intro i
  induction i with
  | zero => intro _; simp [textL]
  | succ i ih =>
    intro hi
    have hget : l[i]? = some l[i] := List.getElem?_eq_getElem (by omega)
    have hx := hl l[i] (List.getElem_mem (by omega))
    have := ih (by omega)
    rw [textL_take hget, List.length_append, bts_len, line_size]
    omega
set_option maxRecDepth 100000 in
set_option maxHeartbeats 2000000 in
theorem rtext_calls {w : World} {A : Option Addr} {n c : Nat} {l : List Fd} (h : FRd w A n l) (hn : n ≤ 1000) (hl : Sml l) :
    Calls Tryd.prog 40 #[.slice A n c] w fun e w' => e = .returned (.string (ofL (textL l))) ∧ Step (fun _ => False) w w' := by
  have hln := h.len
  have HH := Lib.hid h
  have HL := Lib.hid hl
  have HS := Lib.hid (textL_size hl)
  obtain ⟨r, hr⟩ : ∃ r, ofL (textL l) = r := ⟨_, rfl⟩
  rw [hr]
  have HR := Lib.hid hr
  clear h hl hr
  go_enter Tryd.func40, Tryd.ntmps40
  go_wp2
  go_loopw [3, 8] (fun v3 v8 wr => ∃ (i : Nat), v8 = .int .i64 (i : Int) ∧ v3 = .string (ofL (textL (l.take i))) ∧ i ≤ n ∧ Step (fun _ => False) w wr) (fun _ v _ => n - (intOf v).toNat)
  case atStart => exact ⟨0, rfl, rfl, Nat.zero_le _, Step.refl _ _⟩
  case round =>
    obtain ⟨i, rfl, rfl, hi, hst⟩ := hrel
    by_cases hin : i < n
    · have hin' : ((i : Int) < (n : Int)) := by omega
      have hR := HH.out.same hst
      obtain ⟨g, o, rfl⟩ := RSeg.isSome hR (by omega) (by omega)
      have hget : l[i]? = some l[i] := List.getElem?_eq_getElem (by omega)
      obtain ⟨a0, a1⟩ := FRd.cells hR hget
      have HTK := Lib.hid (textL_take hget)
      have hsz := HL.out l[i] (List.getElem_mem (by omega))
      have hts : (ofL (textL (l.take i))).size ≤ 3000000000 := by rw [ofL_size]; have := HS.out i (by omega); omega
      have HAP := Lib.hid (ofL_app (textL (l.take i)))
      obtain ⟨acc, hacc⟩ : ∃ acc, ofL (textL (l.take i)) = acc := ⟨_, rfl⟩
      rw [hacc] at hts HAP ⊢
      generalize l[i] = x at *
      obtain ⟨nm, v⟩ := x
      simp only at a0 a1 hsz HTK
      obtain ⟨hz1, hz2⟩ := hsz
      clear hR hget HH HL HS hacc
      have h1 : (nm ++ ⟨#[58, 32]⟩ : ByteArray).size ≤ 1000002 := by rw [cat_size]; show nm.size + 2 ≤ _; omega
      have h2 : (nm ++ ⟨#[58, 32]⟩ ++ v : ByteArray).size ≤ 2000002 := by rw [cat_size]; omega
      have h3 : (nm ++ ⟨#[58, 32]⟩ ++ v ++ ⟨#[13, 10]⟩ : ByteArray).size ≤ 2000004 := by rw [cat_size]; show _ + 2 ≤ _; omega
      go_upto_region 5 with (fail)
      refine alloc_next (cs := [.string nm, .string v]) ?_
      intro w2 hE hs2
      have e0 := hE.cell (i := 0) rfl
      have e1 := hE.cell (i := 1) rfl
      clear a0 a1
      go_wp2
      go_roundw
      case rel => exact ⟨i + 1, by go_num, by rw [HTK.out, HAP.out]; rfl, by omega, hst.same hs2⟩
      case measure => simp [intOf]; omega
    · have hin' : ¬ ((i : Int) < (n : Int)) := by omega
      obtain rfl : i = n := by omega
      have hfin : ofL (textL (l.take i)) = r := by rw [← hln, List.take_length]; exact HR.out
      rw [hfin]
      clear hfin
      go_wp2
      go_ret
      exact ⟨rfl, hst⟩
/-- One field of Set: what stands, and is it done. -/
def rsetStep (s v : ByteArray) (st : List Fd × Bool) (x : Fd) : List Fd × Bool := if sameN x.nm s = true then (if st.2 = true then st else (st.1 ++ [⟨s, v⟩], true)) else (st.1 ++ [x], st.2)
def rsetA (l : List Fd) (s v : ByteArray) : List Fd × Bool := l.foldl (rsetStep s v) ([], false)
theorem dropF_one (l : List Fd) (s : ByteArray) : dropF l [s] = l.filter (fun x => !sameN x.nm s) := by
  unfold dropF
  congr 1
  funext x
  simp
theorem rset_done (s v : ByteArray) : ∀ (l o : List Fd), l.foldl (rsetStep s v) (o, true) = (o ++ dropF l [s], true)
  | [], o => by simp [dropF]
  | x :: l, o => by
    rw [List.foldl_cons]
    cases hx : sameN x.nm s with
    | true =>
      have e : rsetStep s v (o, true) x = (o, true) := by unfold rsetStep; rw [hx]; rfl
      rw [e, rset_done s v l o, dropF_one, dropF_one, List.filter_cons, hx]
      rfl
    | false =>
      have e : rsetStep s v (o, true) x = (o ++ [x], true) := by unfold rsetStep; rw [hx]; rfl
      rw [e, rset_done s v l, dropF_one, dropF_one, List.filter_cons, hx]
      simp
theorem rset_fold (s v : ByteArray) : ∀ (l o : List Fd), l.foldl (rsetStep s v) (o, false) = match l.findIdx? (fun x => sameN x.nm s) with
    | none => (o ++ l, false)
    | some i => (o ++ ((l.take i ++ [⟨s, v⟩]) ++ dropF (l.drop (i + 1)) [s]), true)
  | [], o => by simp
  | x :: l, o => by
    rw [List.foldl_cons, List.findIdx?_cons]
    cases hx : sameN x.nm s with
    | true =>
      have e : rsetStep s v (o, false) x = (o ++ [⟨s, v⟩], true) := by unfold rsetStep; rw [hx]; rfl
      rw [e, rset_done]
      simp
    | false =>
      have e : rsetStep s v (o, false) x = (o ++ [x], false) := by unfold rsetStep; rw [hx]; rfl
      rw [e, rset_fold s v l]
      cases l.findIdx? (fun x => sameN x.nm s) with
      | none => simp
      | some i => simp
theorem rset_eq (l : List Fd) (s v : ByteArray) : setF l s v = if (rsetA l s v).2 = true then (rsetA l s v).1 else (rsetA l s v).1 ++ [⟨s, v⟩] := by
  unfold rsetA setF
  rw [rset_fold]
  cases l.findIdx? (fun x => sameN x.nm s) with
  | none => simp
  | some i => simp
theorem rset_step {l : List Fd} {s v : ByteArray} {i : Nat} {x : Fd} (h : l[i]? = some x) : rsetA (l.take (i + 1)) s v = rsetStep s v (rsetA (l.take i) s v) x := by
  unfold rsetA
  rw [List.take_add_one, h, List.foldl_append]
  rfl
theorem rset_len (s v : ByteArray) : ∀ (l o : List Fd) (b : Bool), (l.foldl (rsetStep s v) (o, b)).1.length ≤ o.length + l.length
  | [], o, b => by simp
  | x :: l, o, b => by
    rw [List.foldl_cons]
    have h := rset_len s v l (rsetStep s v (o, b) x).1 (rsetStep s v (o, b) x).2
    have h2 : (rsetStep s v (o, b) x).1.length ≤ o.length + 1 := by
      unfold rsetStep
      split
      · split <;> simp
      · simp
    rw [List.length_cons]
    have e : ((rsetStep s v (o, b) x).1, (rsetStep s v (o, b) x).2) = rsetStep s v (o, b) x := rfl
    rw [e] at h
    omega
set_option maxRecDepth 100000 in
set_option maxHeartbeats 4000000 in
theorem rset_calls {w : World} {A : Option Addr} {n c : Nat} {l : List Fd} (h : FRd w A n l) (hA : ∀ k, blockOf A = some k → k < w.heap.size) (hn : n ≤ 1000) (hl : ∀ x ∈ l, x.nm.size ≤ 900000) (s v : ByteArray) (hs : s.size ≤ 900000) :
    Calls Tryd.prog 37 #[.slice A n c, .string s, .string v] w fun e w' => ∃ A' c', e = .returned (.slice A' (setF l s v).length c') ∧ FW w' 29 A' (setF l s v).length c' (setF l s v) ∧ Step (fun _ => False) w w' ∧ (∀ j, blockOf A' = some j → w.heap.size ≤ j) := by
  have hln := h.len
  have HH := Lib.hid h
  have HAB := Lib.hid hA
  have HL := Lib.hid hl
  obtain ⟨r, hr⟩ : ∃ r, setF l s v = r := ⟨_, rfl⟩
  rw [hr]
  rw [rset_eq] at hr
  have HR := Lib.hid hr
  clear h hA hl hr
  go_enter Tryd.func37, Tryd.ntmps37
  go_wp2
  go_loopw [7, 8, 14] (fun v7 v8 v14 wr => ∃ (i m : Nat) (B : Option Addr) (cB : Nat) (o : List Fd) (d : Bool), v14 = .int .i64 (i : Int) ∧ v7 = .slice B m cB ∧ v8 = .bool d ∧ i ≤ n ∧ m ≤ i ∧ rsetA (l.take i) s v = (o, d) ∧ m = o.length ∧ FW wr 29 B m cB o ∧ Step (fun _ => False) w wr ∧ (∀ j, blockOf B = some j → w.heap.size ≤ j)) (fun _ _ v _ => n - (intOf v).toNat)
  case atStart => exact ⟨0, 0, _, _, [], false, rfl, rfl, rfl, Nat.zero_le _, Nat.le_refl _, rfl, rfl, fw_empty w _, (Step.refl _ _).alloc _, fun j hj => by have : w.heap.size = j := Option.some.inj hj; omega⟩
  case round =>
    obtain ⟨i, m, B, cB, o, d, rfl, rfl, rfl, hi, hml, hst0, hm, hF, hst, hf⟩ := hrel
    by_cases hin : i < n
    · have hin' : ((i : Int) < (n : Int)) := by omega
      have hR := HH.out.same hst
      obtain ⟨g, oo, rfl⟩ := RSeg.isSome hR (by omega) (by omega)
      have hget : l[i]? = some l[i] := List.getElem?_eq_getElem (by omega)
      obtain ⟨a0, a1⟩ := FRd.cells hR hget
      have htk := rset_step (s := s) (v := v) hget
      rw [hst0] at htk
      have hsz := HL.out l[i] (List.getElem_mem (by omega))
      generalize l[i] = x at *
      clear hR hget HH hst0
      obtain ⟨nm, u⟩ := x
      simp only at a0 a1 hsz
      have HIS := Lib.hid (fun w => ris_calls nm u s (by omega) (by omega) w)
      have HM := Lib.hid hm
      have HF := Lib.hid (And.intro hF hf)
      have HTK := Lib.hid htk
      have hzr := hst.size
      clear hm hF hf htk
      go_upto_region 6 with (fail)
      refine alloc_next (cs := [.string nm, .string u]) ?_
      intro w2 hE hs2
      have e0 := hE.cell (i := 0) rfl
      have e1 := hE.cell (i := 1) rfl
      cases hq : sameN nm s with
      | false =>
        have HQ := Lib.hid hq
        clear hq
        go_wp2_with (first
          | (go_at_call 51; refine (HIS.out _).mono ?_; rw [HQ.out]; rintro e w3 ⟨rfl, hs3⟩; have f0 := (hE.keep hs3 (fun h => h)).cell (i := 0) rfl; have f1 := (hE.keep hs3 (fun h => h)).cell (i := 1) rfl; obtain ⟨B', c', w4, hap, hF4, hf4, hs4⟩ := app_rf_one (HF.out.1.keep (hs2.same hs3) (fun _ _ h => h)) (by omega) ⟨nm, u⟩; have HX := Lib.hid (And.intro hF4 (And.intro hf4 hs4)); clear hF4 hf4 hs4)
          | (at_builtin; refine wpList_app1 (by rfl) (.tmp 22) (.tmp 24) 34 (by rfl) (by rfl) (by rfl) hap ?_))
        go_roundw
        case rel =>
          obtain ⟨hF, hf⟩ := HF.out
          obtain ⟨hF4, hf4, hs4⟩ := HX.out
          have e3 : rsetStep s v (o, d) ⟨nm, u⟩ = (o ++ [⟨nm, u⟩], d) := by unfold rsetStep; simp only [HQ.out]; rfl
          have hz3 := (hs2.same hs3).size
          exact ⟨i + 1, m + 1, B', c', o ++ [⟨nm, u⟩], d, by go_num, rfl, rfl, by omega, by omega, HTK.out.trans e3, by rw [List.length_append, ← HM.out]; rfl, hF4, ((hst.same hs2).same hs3).trans hs4 (fun j hj h => by have := hf _ h; omega), fun j hj => (hf4 j hj).elim (hf j) (fun h => by omega)⟩
        case measure => simp [intOf]; omega
      | true =>
        have HQ := Lib.hid hq
        clear hq
        cases d with
        | true =>
          go_wp2_with (go_at_call 51; refine (HIS.out _).mono ?_; rw [HQ.out]; rintro e w3 ⟨rfl, hs3⟩)
          go_roundw
          case rel =>
            obtain ⟨hF, hf⟩ := HF.out
            have e3 : rsetStep s v (o, true) ⟨nm, u⟩ = (o, true) := by unfold rsetStep; simp only [HQ.out]; rfl
            exact ⟨i + 1, m, B, cB, o, true, by go_num, rfl, rfl, by omega, by omega, HTK.out.trans e3, HM.out, hF.keep (hs2.same hs3) (fun _ _ h => h), (hst.same hs2).same hs3, hf⟩
          case measure => simp [intOf]; omega
        | false =>
          go_wp2_with (first
            | (go_at_call 51; refine (HIS.out _).mono ?_; rw [HQ.out]; rintro e w3 ⟨rfl, hs3⟩; obtain ⟨B', c', w4, hap, hF4, hf4, hs4⟩ := app_rf_one (HF.out.1.keep (hs2.same hs3) (fun _ _ h => h)) (by omega) ⟨s, v⟩; have HX := Lib.hid (And.intro hF4 (And.intro hf4 hs4)); clear hF4 hf4 hs4)
            | (at_builtin; refine wpList_app1 (by rfl) (.tmp 28) (.tmp 32) 34 (by rfl) (by rfl) (by rfl) hap ?_))
          go_roundw
          case rel =>
            obtain ⟨hF, hf⟩ := HF.out
            obtain ⟨hF4, hf4, hs4⟩ := HX.out
            have e3 : rsetStep s v (o, false) ⟨nm, u⟩ = (o ++ [⟨s, v⟩], true) := by unfold rsetStep; simp only [HQ.out]; rfl
            have hz3 := (hs2.same hs3).size
            exact ⟨i + 1, m + 1, B', c', o ++ [⟨s, v⟩], true, by go_num, rfl, rfl, by omega, by omega, HTK.out.trans e3, by rw [List.length_append, ← HM.out]; rfl, hF4, ((hst.same hs2).same hs3).trans hs4 (fun j hj h => by have := hf _ h; omega), fun j hj => (hf4 j hj).elim (hf j) (fun h => by omega)⟩
          case measure => simp [intOf]; omega
    · have hin' : ¬ ((i : Int) < (n : Int)) := by omega
      obtain rfl : i = n := by omega
      rw [← hln, List.take_length] at hst0
      have hfin := HR.out
      rw [hst0] at hfin
      simp only at hfin
      clear hst0 HR
      cases d with
      | true =>
        simp only [if_true] at hfin
        subst hfin
        have HX := Lib.hid (And.intro hm (And.intro hF hf))
        clear hm hF hf
        go_wp2
        go_ret
        obtain ⟨hm, hF, hf⟩ := HX.out
        subst hm
        exact ⟨B, cB, rfl, hF, hst, hf⟩
      | false =>
        simp only [Bool.false_eq_true, if_false] at hfin
        obtain ⟨B', c', w4, hap, hF4, hf4, hs4⟩ := app_rf_one hF (by omega) ⟨s, v⟩
        rw [hfin] at hF4
        have hr1 : m + 1 = r.length := by rw [← hfin, List.length_append, ← hm]; rfl
        have HX := Lib.hid (And.intro hr1 (And.intro hF4 (And.intro hf4 (And.intro hs4 hf))))
        have hzr := hst.size
        clear hm hF hf hfin hr1 hF4 hf4 hs4
        go_wp2_with (at_builtin; refine wpList_app1 (by rfl) (.tmp 37) (.tmp 41) 34 (by rfl) (by rfl) (by rfl) hap ?_)
        go_ret
        obtain ⟨hr1, hF4, hf4, hs4, hf⟩ := HX.out
        rw [hr1] at hF4 ⊢
        exact ⟨B', c', rfl, hF4, hst.trans hs4 (fun j hj h => by have := hf _ h; omega), fun j hj => (hf4 j hj).elim (hf j) (fun h => by omega)⟩
end Go.Proofs.YtcpblhcpjjpffaaDoor.Fie
