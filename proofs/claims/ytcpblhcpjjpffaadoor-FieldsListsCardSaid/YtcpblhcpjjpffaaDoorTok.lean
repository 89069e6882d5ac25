/- fields and the document: Tokens. Own work of this seat; no condition but on lengths. -/
import Derived.Test.YtcpblhcpjjpffaaDoorLst1
namespace Go.Proofs.YtcpblhcpjjpffaaDoor.Fie
open Go.RowKit Go.Proofs.YtcpblhcpjjpffaaDoor.Kit Go.Proofs.YtcpblhcpjjpffaaDoor.Oct Go.Proofs.YtcpblhcpjjpffaaDoor.Cut
set_option linter.unusedVariables false
set_option linter.unusedSimpArgs false

theorem mid_at {l : List ByteArray} {i : Nat} {x : ByteArray} (f : ByteArray → ByteArray) (h : l[i]? = some x) : ((l.take i).map f ++ l.drop i)[i]? = some x := by
  have hi := (List.getElem?_eq_some_iff.1 h).1
  rw [List.getElem?_append_right (by rw [List.length_map, List.length_take]; omega), List.length_map, List.length_take, Nat.min_eq_left (by omega), Nat.sub_self, List.getElem?_drop, Nat.add_zero]
  exact h
theorem mid_next {l : List ByteArray} {i : Nat} {x : ByteArray} (f : ByteArray → ByteArray) (h : l[i]? = some x) : ((l.take i).map f ++ l.drop i).set i (f x) = (l.take (i + 1)).map f ++ l.drop (i + 1) := by
  have hi := (List.getElem?_eq_some_iff.1 h).1
  rw [List.set_append_right _ _ (by rw [List.length_map, List.length_take]; omega), List.length_map, List.length_take, Nat.min_eq_left (by omega), Nat.sub_self, List.drop_eq_getElem_cons hi, List.set_cons_zero, List.take_add_one, h]
  simp
theorem SW.set {w : World} {g n c : Nat} {l : List ByteArray} (h : SW w (some ⟨g, 0, none⟩) n c l) (j : Nat) (x : ByteArray) : SW (w.setCell ⟨g, j, none⟩ (.string x)) (some ⟨g, 0, none⟩) n c (l.set j x) := by
  have := FSeg.set h j (.string x)
  unfold SW
  rw [List.map_set]
  exact this
def toks (l : List Fd) (s : ByteArray) : List ByteArray := (listB (allF l s)).map lower
theorem keepP_mem {ps : List (List UInt8)} {x : ByteArray} (h : x ∈ keepP ps) : ∃ p ∈ ps, trim (ofL p) = x := by
  unfold keepP at h
  obtain ⟨p, hp, e⟩ := List.mem_map.1 (List.mem_filter.1 h).1
  exact ⟨p, hp, e⟩
theorem listB_size {l : List ByteArray} (hl : ∀ x ∈ l, x.size ≤ 1000) : ∀ x ∈ listB l, x.size ≤ 1000 := by
  intro x hx
  obtain ⟨v, hv, hxv⟩ := List.mem_flatMap.1 hx
  obtain ⟨p, hp, rfl⟩ := keepP_mem hxv
  have h1 := splitC_mem _ hp
  rw [bts_len] at h1
  have h2 := trim_size (ofL p)
  rw [ofL_size] at h2
  have := hl v hv
  omega
theorem listB_len' {l : List ByteArray} (hl : ∀ x ∈ l, x.size ≤ 1000) (hn : l.length ≤ 100) : (listB l).length ≤ 100100 := by
  have := listB_len hl l.length (Nat.le_refl _)
  rw [List.take_length] at this
  omega
theorem allF_size {l : List Fd} (s : ByteArray) (hl : ∀ x ∈ l, x.vl.size ≤ 1000) : ∀ x ∈ allF l s, x.size ≤ 1000 := by
  intro x hx
  obtain ⟨y, hy, rfl⟩ := allF_mem hx
  exact hl y hy
theorem allF_len' (l : List Fd) (s : ByteArray) : (allF l s).length ≤ l.length := by
  have := allF_len l s l.length
  rw [List.take_length] at this
  exact this
set_option maxRecDepth 100000 in
set_option maxHeartbeats 2000000 in
theorem tokens_calls {w : World} {A : Option Addr} {n c : Nat} {l : List Fd} (h : FRd w A n l) (hA : ∀ k, blockOf A = some k → k < w.heap.size) (hn : n ≤ 100) (hl : ∀ x ∈ l, x.nm.size ≤ 900000) (hv : ∀ x ∈ l, x.vl.size ≤ 1000) (s : ByteArray) (hs : s.size ≤ 900000) :
    Calls Tryd.prog 42 #[.slice A n c, .string s] w fun e w' => ∃ A' m c', e = .returned (.slice A' m c') ∧ SW w' A' m c' (toks l s) ∧ Step (fun _ => False) w w' ∧ (∀ j, blockOf A' = some j → w.heap.size ≤ j) := by
  have hln := h.len
  have HA := Lib.hid (all_calls (c := c) h hA (by omega) hl s hs)
  have has := allF_size s hv
  have hal := allF_len' l s
  rw [hln] at hal
  have HO := Lib.hid (fun (w1 : World) (A1 : Option Addr) (c1 : Nat) (h1 : SW w1 A1 (allF l s).length c1 (allF l s)) => olist_calls h1.rd (fun k hk => FSeg.lt h1 hk) (FSeg.le h1) (by omega) has)
  have HSZ := Lib.hid (listB_size has)
  have hll := listB_len' has (by omega)
  obtain ⟨r, hr⟩ : ∃ r, listB (allF l s) = r := ⟨_, rfl⟩
  have HT : toks l s = r.map lower := by unfold toks; rw [hr]
  rw [HT]
  rw [hr] at HO HSZ hll
  have HALL := HA
  generalize allF l s = al at *
  clear h hA hl hv has hr HT HALL hln
  go_enter Tryd.func42, Tryd.ntmps42
  go_wp2_with (first
    | (go_at_call 35; refine HA.out.mono ?_; rintro e w1 ⟨A1, c1, rfl, hF1, hs1, _⟩)
    | (go_at_call 69; refine (HO.out _ _ _ hF1).mono ?_; rintro e w2 ⟨A2, m, c2, rfl, hF2, hs2, hf2⟩))
  have hst2 := hs1.same hs2
  have hz1 := hs1.size
  have hm := hF2.len
  have hmb : m ≤ 100100 := by omega
  have hF2' := Lib.hid (And.intro hF2 (And.intro hf2 (And.intro hst2 hz1)))
  clear hF2 hf2 hst2 hF1 hs1 hs2 HA HO
  go_loopw [14] (fun v14 wr => ∃ (i : Nat), v14 = .int .i64 (i : Int) ∧ i ≤ m ∧ SW wr A2 m c2 ((r.take i).map lower ++ r.drop i) ∧ Step (fun _ => False) w wr) (fun v _ => m - (intOf v).toNat)
  case atStart => exact ⟨0, rfl, Nat.zero_le _, by simpa using hF2'.out.1, hF2'.out.2.2.1⟩
  case round =>
    obtain ⟨i, rfl, hi, hF, hst⟩ := hrel
    by_cases hin : i < m
    · have hin' : ((i : Int) < (m : Int)) := by omega
      have hget : r[i]? = some r[i] := List.getElem?_eq_getElem (by omega)
      obtain ⟨g, rfl⟩ := FSeg.isSome hF (by omega)
      have HMN := Lib.hid (mid_next lower hget)
      have hat := mid_at lower hget
      have hsz := HSZ.out r[i] (List.getElem_mem (by omega))
      generalize r[i] = x at *
      have a0 : wr.cell? ⟨g, i, none⟩ = some (.string x) := FSeg.cell hF (by rw [List.getElem?_map, hat]; rfl)
      have HLO := Lib.hid (fun w => lower_calls x (by omega) w)
      generalize lower x = y at *
      have HF := Lib.hid (And.intro hF hst)
      have HAT := Lib.hid hat
      have hgw : w.heap.size ≤ g := by have := hF2'.out.2.1 g rfl; have := hF2'.out.2.2.2; omega
      clear hget hat hF hst
      go_wp2_with (go_at_call 70; refine (HLO.out _).mono ?_; rintro e w3 ⟨rfl, hs3⟩; have hF3 : SW w3 (some ⟨g, 0, none⟩) m c2 ((r.take i).map lower ++ r.drop i) := FSeg.keep HF.out.1 hs3 (fun _ _ h => h); have b0 := FSeg.cell hF3 (j := i) (v := .string x) (by rw [List.getElem?_map, HAT.out]; rfl); have fr := FSeg.free hF3 i)
      go_roundw
      case rel =>
        refine ⟨i + 1, by go_num, by omega, by rw [← HMN.out]; exact hF3.set i y, ?_⟩
        exact (HF.out.2.same hs3).trans (Step.setCell (F := fun k => k = g) (Step.refl _ w3) (p := ⟨g, i, none⟩) (fun _ => rfl) _) (fun j hj e => by omega)
      case measure => simp [intOf]; omega
    · have hin' : ¬ ((i : Int) < (m : Int)) := by omega
      obtain rfl : i = m := by omega
      have hfin : (r.take i).map lower ++ r.drop i = r.map lower := by rw [← hm, List.take_length, List.drop_length, List.append_nil]
      rw [hfin] at hF
      have HX := Lib.hid (And.intro hF hst)
      clear hF hst hfin
      go_wp2
      go_ret
      exact ⟨A2, i, c2, rfl, HX.out.1, HX.out.2, fun j hj => by have := hF2'.out.2.1 j hj; have := hF2'.out.2.2.2; omega⟩
theorem map_take {l : List ByteArray} {i : Nat} {x : ByteArray} (f : ByteArray → ByteArray) (h : l[i]? = some x) : (l.take (i + 1)).map f = (l.take i).map f ++ [f x] := by
  rw [List.take_add_one, h]
  simp
set_option maxRecDepth 100000 in
set_option maxHeartbeats 2000000 in
theorem rtokens_calls {w : World} {A : Option Addr} {n c : Nat} {l : List Fd} (h : FRd w A n l) (hA : ∀ k, blockOf A = some k → k < w.heap.size) (hn : n ≤ 100) (hl : ∀ x ∈ l, x.nm.size ≤ 900000) (hv : ∀ x ∈ l, x.vl.size ≤ 1000) (s : ByteArray) (hs : s.size ≤ 900000) :
    Calls Tryd.prog 43 #[.slice A n c, .string s] w fun e w' => ∃ A' m c', e = .returned (.slice A' m c') ∧ SW w' A' m c' (toks l s) ∧ Step (fun _ => False) w w' ∧ (∀ j, blockOf A' = some j → w.heap.size ≤ j) := by
  have hln := h.len
  have HA := Lib.hid (fun (w' : World) (hst : Step (fun _ => False) w w') => rall_calls (c := c) (h.same hst) (fun k hk => Nat.lt_of_lt_of_le (hA k hk) hst.size) (by omega) hl s hs)
  have has := allF_size s hv
  have hal := allF_len' l s
  rw [hln] at hal
  have HO := Lib.hid (fun (w1 : World) (A1 : Option Addr) (c1 : Nat) (h1 : SW w1 A1 (allF l s).length c1 (allF l s)) => rlist_calls (c := c1) h1.rd (by omega) has)
  have HSZ := Lib.hid (listB_size has)
  have hll := listB_len' has (by omega)
  obtain ⟨r, hr⟩ : ∃ r, listB (allF l s) = r := ⟨_, rfl⟩
  have HT : toks l s = r.map lower := by unfold toks; rw [hr]
  rw [HT]
  rw [hr] at HO HSZ hll
  generalize allF l s = al at *
  clear h hA hl hv has hr HT hln
  go_enter Tryd.func43, Tryd.ntmps43
  go_upto_region 2 with (fail)
  refine alloc_next (cs := []) ?_
  intro w0 hE hs0
  have hFE : SW w0 (some ⟨w.heap.size, 0, none⟩) 0 0 [] := ⟨rfl, .inr ⟨w.heap.size, #[], rfl, hE, Nat.le_refl _, by simp, fun j v hj => by simp at hj⟩⟩
  obtain ⟨eb, heb⟩ : ∃ eb, w.heap.size = eb := ⟨_, rfl⟩
  rw [heb] at hFE ⊢
  have HEB := Lib.hid heb
  clear heb hE
  go_wp2_with (first
    | (go_at_call 31; refine (HA.out _ hs0).mono ?_; rintro e w1 ⟨A1, c1, rfl, hF1, hs1, _⟩)
    | (go_at_call 71; refine (HO.out _ _ _ hF1).mono ?_; rintro e w2 ⟨A2, m, c2, rfl, hF2, hs2, hf2⟩))
  have hst2 := (hs0.same hs1).same hs2
  have hm := hF2.len
  have hmb : m ≤ 100100 := by omega
  have hFE2 : SW w2 (some ⟨eb, 0, none⟩) 0 0 [] := FSeg.keep hFE (hs1.same hs2) (fun _ _ h => h)
  have hebl : eb < w1.heap.size := Nat.lt_of_lt_of_le (FSeg.lt hFE rfl) hs1.size
  have HA2 := Lib.hid (fun (j : Nat) (hj : blockOf A2 = some j) => (show j ≠ eb by have := hf2 j hj; omega))
  have hF2' := Lib.hid hF2.rd
  have HS := Lib.hid (And.intro hFE2 hst2)
  clear hF2 hf2 hst2 hF1 hs1 hs2 HA HO hFE hFE2 hs0
  go_loopw [5, 14] (fun v5 v14 wr => ∃ (i : Nat) (B : Option Addr) (cB : Nat), v14 = .int .i64 (i : Int) ∧ v5 = .slice B i cB ∧ i ≤ m ∧ SW wr B i cB ((r.take i).map lower) ∧ Step (fun k => k = eb) w2 wr ∧ Step (fun _ => False) w wr ∧ (∀ j, blockOf B = some j → w.heap.size ≤ j ∧ (j < w2.heap.size → j = eb))) (fun _ v _ => m - (intOf v).toNat)
  case atStart => exact ⟨0, _, _, rfl, rfl, Nat.zero_le _, by simpa using HS.out.1, Step.refl _ _, HS.out.2, fun j hj => by have : eb = j := Option.some.inj hj; have := HEB.out; omega⟩
  case round =>
    obtain ⟨i, B, cB, rfl, rfl, hi, hF, hst2, hst, hf⟩ := hrel
    by_cases hin : i < m
    · have hin' : ((i : Int) < (m : Int)) := by omega
      have hget : r[i]? = some r[i] := List.getElem?_eq_getElem (by omega)
      have hR : SRd wr A2 m r := RSeg.keep hF2'.out hst2 (fun j hj e => HA2.out j hj e)
      obtain ⟨g2, o2, rfl⟩ := RSeg.isSome hR (by omega) (by omega)
      have a0 := SRd.cells hR hget
      have HMP := Lib.hid (map_take lower hget)
      have hsz := HSZ.out r[i] (List.getElem_mem (by omega))
      generalize r[i] = x at *
      have HLO := Lib.hid (fun w => rlower_calls x (by omega) w)
      generalize lower x = y at *
      have HF := Lib.hid (And.intro hF (And.intro hst (And.intro hst2 hf)))
      clear hget hF hst hst2 hf hR
      go_wp2_with (first
        | (go_at_call 72; refine (HLO.out _).mono ?_; rintro e w3 ⟨rfl, hs3⟩; obtain ⟨B', c', w4, hap, hF4, hf4, hs4⟩ := app_st_one (show SW w3 B i cB ((r.take i).map lower) from FSeg.keep HF.out.1 hs3 (fun _ _ h => h)) (by omega) y; have HX := Lib.hid (And.intro hF4 (And.intro hf4 hs4)); clear hF4 hf4 hs4)
        | (at_builtin; refine wpList_app1 (by rfl) (.tmp 18) (.tmp 21) 35 (by rfl) (by rfl) (by rfl) hap ?_))
      go_roundw
      case rel =>
        obtain ⟨hF, hst, hst2, hf⟩ := HF.out
        obtain ⟨hF4, hf4, hs4⟩ := HX.out
        have z1 := hst.size
        have z2 := hst2.size
        have z3 := hs3.size
        refine ⟨i + 1, B', c', by go_num, rfl, by omega, by rw [HMP.out]; exact hF4, (hst2.trans hs3 (fun _ _ h => h.elim)).trans hs4 (fun j hj h => (hf j h).2 hj), (hst.same hs3).trans hs4 (fun j hj h => by have := (hf j h).1; omega), fun j hj => ?_⟩
        rcases hf4 j hj with h | h
        · exact hf j h
        · exact ⟨by omega, fun h2 => by omega⟩
      case measure => simp [intOf]; omega
    · have hin' : ¬ ((i : Int) < (m : Int)) := by omega
      obtain rfl : i = m := by omega
      have hfin : (r.take i).map lower = r.map lower := by rw [← hm, List.take_length]
      rw [hfin] at hF
      have HX := Lib.hid (And.intro hF (And.intro hst hf))
      clear hF hst hf hfin
      go_wp2
      go_ret
      exact ⟨B, i, cB, rfl, HX.out.1, HX.out.2.1, fun j hj => (HX.out.2.2 j hj).1⟩
end Go.Proofs.YtcpblhcpjjpffaaDoor.Fie
