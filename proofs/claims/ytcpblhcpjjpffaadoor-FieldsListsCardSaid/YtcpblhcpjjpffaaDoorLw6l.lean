/- The walk of stewardlaw06.FieldsLists. Own work of this seat. -/
import Derived.Test.YtcpblhcpjjpffaaDoorTok
import Derived.Test.YtcpblhcpjjpffaaDoorLw6c
namespace Go.Proofs.YtcpblhcpjjpffaaDoor.Fie
open Go.RowKit Go.Proofs.YtcpblhcpjjpffaaDoor.Kit Go.Proofs.YtcpblhcpjjpffaaDoor.Oct Go.Proofs.YtcpblhcpjjpffaaDoor.Cut Go.Proofs.YtcpblhcpjjpffaaDoorW.PrintWords Go.Proofs.YtcpblhcpjjpffaaDoor
set_option linter.unusedVariables false
set_option linter.unusedSimpArgs false

theorem run_append_nilsrc {P : Program} (w : World) (t ty e : TypeId) (i : TypeInfo) (k : Nat) (ht : P.underlying t = some (.slice e)) (hi : P.info? e = some i) (hs1 : i.size = k) (g n c : Nat) (hnc : n ≤ c) :
    (Builtin.append_ #[t, t] ty #[.slice (some ⟨g, 0, none⟩) n c, .slice none 0 0]).run P w = .ok (.slice (some ⟨g, 0, none⟩) n c) w := by
  have hf : (Builtin.firstCells k 0 (.slice none 0 0)).run P w = .ok #[] w := by
    simp [Builtin.firstCells]
  have hst : (storeCells ((⟨g, 0, none⟩ : Addr).add (n * k)) []).run P w = .ok () w := by simp [storeCells]
  simp [Builtin.append_, run_underlying ht, sizeOf, typeInfo, hi, hs1, Builtin.lenOf, hnc, hf, hst]
/-- An append behind a guard that is on, whose run is known. -/
theorem wpList_app1w {P : Program} {ops : Array Oper} {rest : List Oper} {o : Oper} {a : Act} {w w' : World} {Q : Exit → Act → World → Prop} (hw : Region.wanted o (yielded ops a.tmps) = true) (s x : Operand) (t : TypeId)
    (ho : o.op = .call { callee := .builtin .append, args := #[s, x], argTypes := #[t, t] }) {vs vx v : Value} (hs : a.eval s = vs) (hx : a.eval x = vx) (hr : (Builtin.append_ #[t, t] o.type #[vs, vx]).run P w = .ok v w') (h : wpList P ops Q rest (a.put o.dst v) w') :
    wpList P ops Q (o :: rest) a w := by
  refine wpList_step fun K hK => ?_
  rw [if_pos hw]
  unfold Oper.wp execOp
  simp only [ho, resolve, invoke, builtin, Sem.run_bind, Sem.run_pure, Result.andThen_ok, List.map_toArray, List.map_cons, List.map_nil, hs, hx, hr]
  exact hK _ _ h
/-- append([]Field{}, x...). -/
theorem app_rf_all {w : World} {eb : Nat} (hE : FW w 29 (some ⟨eb, 0, none⟩) 0 0 []) {X : Option Addr} {m cX : Nat} {l : List Fd} (hX : FW w 29 X m cX l) (hm : m ≤ 1000) :
    ∃ B c' w', (Builtin.append_ #[34, 34] 34 #[.slice (some ⟨eb, 0, none⟩) 0 0, .slice X m cX]).run Tryd.prog w = .ok (.slice B m c') w' ∧ FW w' 29 B m c' l ∧ (∀ k, blockOf B = some k → k = eb ∨ w.heap.size ≤ k) ∧ Step (fun k => k = eb) w w' := by
  obtain ⟨i0, hi0, hz0, hs0, hy0⟩ := i0rf
  rcases hX.2 with ⟨rfl, rfl, rfl, he⟩ | ⟨g, cur, rfl, hg⟩
  · have hl : l = [] := List.eq_nil_of_length_eq_zero hX.len
    subst hl
    exact ⟨_, _, w, run_append_nilsrc w _ _ _ i0 2 Tryd.underlying34 hi0 hs0 eb 0 0 (Nat.le_refl _), hE, fun k hk => .inl (by have : eb = k := Option.some.inj hk; omega), Step.refl _ _⟩
  · obtain ⟨A', c', w', h1, h2, h3, h4⟩ := run_append_flat (P := Tryd.prog) (cB := cX) w 34 34 29 i0 _ 2 32 Tryd.underlying34 hi0 hz0 rfl hs0 hy0 (by omega) hE (m := m) (r := fdcs l) (aB := ⟨g, 0, none⟩) hX.1 (fun e => by cases e) (fdcs_cell l) (fun j v hj => by rw [addr_add', Nat.zero_add]; exact FSeg.cell hX hj) (by omega)
    rw [Nat.zero_add] at h1 h2
    refine ⟨A', c', w', h1, by unfold FW; simpa [fdcs] using h2, fun k hk => ?_, h3.mono (fun j _ e => (Option.some.inj e).symm)⟩
    rcases h4 with e | ⟨j, e, hj⟩
    · rw [e] at hk
      exact .inl (Option.some.inj hk).symm
    · rw [hk] at e
      have := Option.some.inj e
      exact .inr (by omega)
theorem fewF_vl (l : List Fd) (k : Nat) : ∀ x ∈ fewF l k, x.vl.size ≤ 40 := by
  intro x hx
  obtain ⟨y, _, rfl⟩ := List.mem_map.1 hx
  exact cutB_size y.vl 40
set_option maxRecDepth 100000 in
set_option maxHeartbeats 8000000 in
theorem lists_law (A0 : Option Addr) (c0 : Nat) (l : List Fd) (a1 a2 : ByteArray) (w : World) (h0 : Kd.C kFd w A0 l.length l) (hc0 : l.length ≤ c0) (hg0 : ∀ x ∈ l, x.nm.size ≤ 9223372036854775807 ∧ x.vl.size ≤ 9223372036854775807) (hz1 : a1.size ≤ 9223372036854775807) (hz2 : a2.size ≤ 9223372036854775807) :
    Calls Tryd.prog 9 #[.slice A0 l.length c0, .string a1, .string a2] w fun e w' => e = .returned (.bool true) ∧ Below w.heap.size w w' := by
  have hf0 : ∀ w', Below w.heap.size w w' → Calls Tryd.prog 15 #[.slice A0 l.length c0, .int .i64 10] w' (fun e w'' => ∃ A' m c', e = .returned (.slice A' m c') ∧ m ≤ 10 ∧ FW w'' 29 A' m c' (fewF l 10) ∧ Step (fun _ => False) w' w'' ∧ (∀ j, blockOf A' = some j → w'.heap.size ≤ j)) := fun w' hb => few_calls (k := 10) (ard_of h0) hb hc0 (by omega) hg0
  have HF0 := Lib.hid hf0
  have HSM := Lib.hid (fewF_sml l 10)
  have HNM := Lib.hid (fun (x : Fd) (hx : x ∈ fewF l 10) => (show x.nm.size ≤ 900000 by have := fewF_nm l 10 x hx; omega))
  have HVL := Lib.hid (fun (x : Fd) (hx : x ∈ fewF l 10) => (show x.vl.size ≤ 1000 by have := fewF_vl l 10 x hx; omega))
  have hc1 : ∀ w', Calls Tryd.prog 11 #[.string a1, .int .i64 20] w' (fun e w'' => e = .returned (.string (cutB a1 20)) ∧ w' = w'') := fun w' => cut_calls a1 20 hz1 w'
  have hc2 : ∀ w', Calls Tryd.prog 11 #[.string a2, .int .i64 40] w' (fun e w'' => e = .returned (.string (cutB a2 40)) ∧ w' = w'') := fun w' => cut_calls a2 40 hz2 w'
  have HC1 := Lib.hid hc1
  have HC2 := Lib.hid hc2
  clear hc1 hc2
  have hn1 := cutB_size a1 20
  have hn2 := cutB_size a2 40
  clear h0 hg0 hf0 hz1 hz2
  generalize cutB a1 20 = nm at *
  generalize cutB a2 40 = va at *
  generalize fewF l 10 = x at *
  generalize l.length = n0 at *
  obtain ⟨al, hal⟩ : ∃ al, allF x nm = al := ⟨_, rfl⟩
  go_enter Tryd.func9, Tryd.ntmps9
  go_upto_region 8 with (first
    | (go_at_call 10; refine (awake_calls _).mono ?_; rintro e0 w1 ⟨rfl, hs1⟩)
    | (go_at_call 15; with_reducible refine (HF0.out _ (hs1.below (Nat.le_refl _) (fun _ h => h.elim))).mono ?_; rintro e2 w2 ⟨X, m, cX, rfl, hm8, hX, hs2, hfX⟩)
    | (go_at_call 11; with_reducible refine (HC1.out _).mono ?_; rintro e w' ⟨rfl, rfl⟩)
    | (go_at_call 11; with_reducible refine (HC2.out _).mono ?_; rintro e w' ⟨rfl, rfl⟩)
    | (go_at_call 16; refine (own_calls (c := cX) hX.rd (fun k hk => FSeg.lt hX hk) (by omega)).mono ?_; rintro e3 w3 ⟨F, cF, rfl, hF, hs3, hfF⟩)
    | (go_at_call 31; refine (rall_calls (c := cX) (hX.rd.same hs3) (fun k hk => FSeg.lt (hX.keep hs3 (fun _ _ h => h)) hk) (by omega) HNM.out nm (by omega)).mono ?_; rw [hal]; rintro e4 w4 ⟨AL, cA, rfl, hAL, hs4, hfA⟩)
    | (go_at_call 32; refine (get_calls (c := cF) (hF.rd.same hs4) (fun k hk => FSeg.lt (hF.keep hs4 (fun _ _ h => h)) hk) (by omega) HNM.out nm (by omega)).mono ?_; rw [hal]; rintro e5 w5 ⟨rfl, hs5⟩))
  have hst5 := (((hs1.same hs2).same hs3).same hs4).same hs5
  have hxl := hX.len
  have HX := Lib.hid (fun w' (hs : Step (fun _ => False) w5 w') => hX.keep (((hs3.same hs4).same hs5).same hs) (fun _ _ h => h))
  have HF := Lib.hid (fun w' (hs : Step (fun _ => False) w5 w') => hF.keep ((hs4.same hs5).same hs) (fun _ _ h => h))
  have HAL := Lib.hid (fun w' (hs : Step (fun _ => False) w5 w') => (show SW w' AL al.length cA al from FSeg.keep hAL (hs5.same hs) (fun _ _ h => h)))
  have HAS := Lib.hid (fun w' (hs : Step (fun _ => False) w5 w') => has_calls (c := cF) (HF.out w' hs).rd (fun k hk => FSeg.lt (HF.out w' hs) hk) (by omega) HNM.out nm (by omega))
  have HALF := Lib.hid (fun w' (hs : Step (fun _ => False) w5 w') => all_calls (c := cF) (HF.out w' hs).rd (fun k hk => FSeg.lt (HF.out w' hs) hk) (by omega) HNM.out nm (by omega))
  rw [hal] at HAS HALF
  have HSET := Lib.hid (fun w' (hs : Step (fun _ => False) w5 w') => set_calls (HF.out w' hs).rd (fun k hk => FSeg.lt (HF.out w' hs) hk) (FSeg.le (HF.out w' hs)) (by omega) HSM.out nm va (by omega))
  have HRSET := Lib.hid (fun w' (hs : Step (fun _ => False) w5 w') => rset_calls (c := cX) (HX.out w' hs).rd (fun k hk => FSeg.lt (HX.out w' hs) hk) (by omega) HNM.out nm va (by omega))
  have HADD := Lib.hid (fun w' (hs : Step (fun _ => False) w5 w') => add_calls (c := cF) (HF.out w' hs).rd (by omega) nm va)
  have HTXT := Lib.hid (fun w' (hs : Step (fun _ => False) w5 w') => text_calls (c := cF) (HF.out w' hs).rd (fun k hk => FSeg.lt (HF.out w' hs) hk) (by omega) HSM.out)
  have HRTX := Lib.hid (fun w' (hs : Step (fun _ => False) w5 w') => rtext_calls (c := cX) (HX.out w' hs).rd (by omega) HSM.out)
  have HRTX2 := HRTX
  have HSIZ := Lib.hid (fun w' (hs : Step (fun _ => False) w5 w') => size_calls (c := cF) (HF.out w' hs).rd (fun k hk => FSeg.lt (HF.out w' hs) hk) (by omega) HSM.out)
  have HTOK := Lib.hid (fun w' (hs : Step (fun _ => False) w5 w') => tokens_calls (c := cF) (HF.out w' hs).rd (fun k hk => FSeg.lt (HF.out w' hs) hk) (by omega) HNM.out HVL.out nm (by omega))
  have HRTO := Lib.hid (fun w' (hs : Step (fun _ => False) w5 w') => rtokens_calls (c := cX) (HX.out w' hs).rd (fun k hk => FSeg.lt (HX.out w' hs) hk) (by omega) HNM.out HVL.out nm (by omega))
  have hall : al.length ≤ 10 := by have := allF_len' x nm; rw [hal] at this; omega
  have hsetl : (setF x nm va).length ≤ 1000 := by
    rw [rset_eq]
    have := rset_len nm va x [] false
    unfold rsetA
    rw [List.length_nil] at this
    split
    · omega
    · rw [List.length_append, List.length_cons, List.length_nil]; omega
  have HBQ := Lib.hid (fun l : List Fd => (beqL_iff l l).2 rfl)
  have htokl : (toks x nm).length ≤ 100100 := by
    unfold toks
    rw [List.length_map]
    exact listB_len' (allF_size nm HVL.out) (by rw [hal]; omega)
  have HADDZ : ∀ w : World, True := fun _ => trivial
  clear hal hX hF hAL hs1 hs2 hs3 hs4 hs5 hfX hfF hfA HF0 HC1 HC2 HSM HNM HVL hxl
  generalize setF x nm va = st at *
  generalize toks x nm = tk at *
  generalize ofL (textL x) = tx at *
  have ht1 := bs_same tx
  have ht2 : ((tx.size : Int) == (tx.size : Int)) = true := by simp
  have ht3 := bs_same (headB al)
  have hcase : al = [] ∨ ∃ a r, al = a :: r := by cases al with | nil => exact .inl rfl | cons a r => exact .inr ⟨a, r, rfl⟩
  rcases hcase with rfl | ⟨a, r, rfl⟩
  · simp only [headB, someB, List.length_nil] at *
    go_wp2_with (first
      | (go_at_call 33; with_reducible refine (HAS.out _ (Step.refl _ _)).mono ?_; clear HAS; rintro e6 w6 ⟨rfl, hq6⟩)
      | (go_at_call 35; with_reducible refine (HALF.out _ hq6).mono ?_; clear HALF; rintro e7 w7 ⟨L7, c7, rfl, hL7, hs7, _⟩; have hq7 := hq6.same hs7)
      | (go_at_call 34; with_reducible refine (ssame_calls (c := c7) (cB := cA) hL7.rd (HAL.out _ hq7).rd (by omega)).mono ?_; clear hL7; rintro e8 w8 ⟨rfl, hs8⟩; have hq8 := hq7.same hs8)
      | (go_at_call 36; with_reducible refine (HSET.out _ hq8).mono ?_; clear HSET; rintro e9 w9 ⟨S9, k9, c9, rfl, hS9, hs9, _⟩; have hq9 := hq8.same hs9; have hk9 := hS9.len; subst hk9)
      | (go_at_call 37; with_reducible refine (HRSET.out _ hq9).mono ?_; clear HRSET; rintro e10 w10 ⟨S10, c10, rfl, hS10, hs10, _⟩; have hq10 := hq9.same hs10)
      | (go_at_call 19; with_reducible refine (lis_calls (c := c9) (cB := c10) (hS9.rd.same hs10) hS10.rd (by omega) (by omega)).mono ?_; rw [HBQ.out]; clear hS9 hS10; rintro e11 w11 ⟨rfl, hs11⟩; have hq11 := hq10.same hs11)
      | (go_at_call 38; with_reducible refine (HADD.out _ hq11).mono ?_; clear HADD; rintro e12 w12 ⟨S12, c12, rfl, hS12, hs12, _⟩; have hq12 := hq11.same hs12; obtain ⟨B1, d1, w13, hap1, hB1, hf1, hs13⟩ := app_rf_all (fw_empty w12 29) ((HX.out _ hq12).keep ((Step.refl (fun _ => False) w12).alloc (.cells #[] 29)) (fun _ _ h => h)) (by omega); obtain ⟨B2, d2, w14, hap2, hB2, hf2, hs14⟩ := app_rf_one hB1 (by omega) ⟨nm, va⟩; have hza : (w12.alloc (.cells #[] 29)).heap.size = w12.heap.size + 1 := World.size_alloc _ _; have hs1214 : Step (fun _ => False) w12 w14 := (((Step.refl (fun _ => False) w12).alloc (.cells #[] 29)).trans hs13 (fun j hj (e : j = w12.heap.size) => by omega)).trans hs14 (fun j hj e => (hf1 j e).elim (fun h => by omega) (fun h => by omega)); have hq14 := hq12.same hs1214; have hk12 := hS12.rd.same hs1214; clear hs1214 hza)
      | (at_builtin; refine wpList_app1w (by rfl) (.tmp 78) (.tmp 79) 34 (by rfl) (by rfl) (by rfl) hap1 ?_)
      | (at_builtin; refine wpList_app1w (by rfl) (.tmp 80) (.tmp 84) 34 (by rfl) (by rfl) (by rfl) hap2 ?_)
      | (go_at_call 19; with_reducible refine (lis_calls (c := c12) (cB := d2) hk12 hB2.rd (by omega) (by omega)).mono ?_; rw [HBQ.out]; rintro e15 w15 ⟨rfl, hs15⟩; have hq15 := hq14.same hs15)
      | (go_at_call 39; with_reducible refine (HTXT.out _ hq15).mono ?_; clear HTXT; rintro e16 w16 ⟨rfl, hs16⟩; have hq16 := hq15.same hs16)
      | (go_at_call 40; with_reducible refine (HRTX.out _ hq16).mono ?_; clear HRTX; rintro e17 w17 ⟨rfl, hs17⟩; have hq17 := hq16.same hs17)
      | (go_at_call 41; with_reducible refine (HSIZ.out _ hq17).mono ?_; clear HSIZ; rintro e18 w18 ⟨rfl, hs18⟩; have hq18 := hq17.same hs18)
      | (go_at_call 40; with_reducible refine (HRTX2.out _ hq18).mono ?_; clear HRTX2; rintro e19 w19 ⟨rfl, hs19⟩; have hq19 := hq18.same hs19)
      | (go_at_call 42; with_reducible refine (HTOK.out _ hq19).mono ?_; clear HTOK; rintro e20 w20 ⟨T20, k20, c20, rfl, hT20, hs20, _⟩; have hq20 := hq19.same hs20; have hk20 := hT20.len; subst hk20)
      | (go_at_call 43; with_reducible refine (HRTO.out _ hq20).mono ?_; clear HRTO; rintro e21 w21 ⟨T21, k21, c21, rfl, hT21, hs21, _⟩; have hq21 := hq20.same hs21; have hk21 := hT21.len; subst hk21)
      | (go_at_call 34; with_reducible refine (ssame_calls (c := c20) (cB := c21) (hT20.rd.same hs21) hT21.rd (by omega)).mono ?_; rintro e22 w22 ⟨rfl, hs22⟩; have hq22 := hq21.same hs22))
    go_ret
    exact ⟨rfl, (hst5.same hq22).below (Nat.le_refl _) (fun _ h => h.elim)⟩
  · have hk0 : 0 < (a :: r).length := by rw [List.length_cons]; omega
    simp only [headB, someB] at *
    have hAL5 := HAL.out w5 (Step.refl _ _)
    obtain ⟨gA, rfl⟩ := FSeg.isSome hAL5 hk0
    have c5 := FSeg.cell hAL5 (j := 0) (v := .string a) rfl
    generalize (a :: r).length = k at *
    have hk0' : (0 : Int) < (k : Int) := by omega
    clear hAL5
    go_wp2_with (first
      | (go_at_call 33; with_reducible refine (HAS.out _ (Step.refl _ _)).mono ?_; clear HAS; rintro e6 w6 ⟨rfl, hq6⟩)
      | (go_at_call 35; with_reducible refine (HALF.out _ hq6).mono ?_; clear HALF; rintro e7 w7 ⟨L7, c7, rfl, hL7, hs7, _⟩; have hq7 := hq6.same hs7)
      | (go_at_call 34; with_reducible refine (ssame_calls (c := c7) (cB := cA) hL7.rd (HAL.out _ hq7).rd (by omega)).mono ?_; clear hL7; rintro e8 w8 ⟨rfl, hs8⟩; have hq8 := hq7.same hs8)
      | (go_at_call 36; with_reducible refine (HSET.out _ hq8).mono ?_; clear HSET; rintro e9 w9 ⟨S9, k9, c9, rfl, hS9, hs9, _⟩; have hq9 := hq8.same hs9; have hk9 := hS9.len; subst hk9)
      | (go_at_call 37; with_reducible refine (HRSET.out _ hq9).mono ?_; clear HRSET; rintro e10 w10 ⟨S10, c10, rfl, hS10, hs10, _⟩; have hq10 := hq9.same hs10)
      | (go_at_call 19; with_reducible refine (lis_calls (c := c9) (cB := c10) (hS9.rd.same hs10) hS10.rd (by omega) (by omega)).mono ?_; rw [HBQ.out]; clear hS9 hS10; rintro e11 w11 ⟨rfl, hs11⟩; have hq11 := hq10.same hs11)
      | (go_at_call 38; with_reducible refine (HADD.out _ hq11).mono ?_; clear HADD; rintro e12 w12 ⟨S12, c12, rfl, hS12, hs12, _⟩; have hq12 := hq11.same hs12; obtain ⟨B1, d1, w13, hap1, hB1, hf1, hs13⟩ := app_rf_all (fw_empty w12 29) ((HX.out _ hq12).keep ((Step.refl (fun _ => False) w12).alloc (.cells #[] 29)) (fun _ _ h => h)) (by omega); obtain ⟨B2, d2, w14, hap2, hB2, hf2, hs14⟩ := app_rf_one hB1 (by omega) ⟨nm, va⟩; have hza : (w12.alloc (.cells #[] 29)).heap.size = w12.heap.size + 1 := World.size_alloc _ _; have hs1214 : Step (fun _ => False) w12 w14 := (((Step.refl (fun _ => False) w12).alloc (.cells #[] 29)).trans hs13 (fun j hj (e : j = w12.heap.size) => by omega)).trans hs14 (fun j hj e => (hf1 j e).elim (fun h => by omega) (fun h => by omega)); have hq14 := hq12.same hs1214; have hk12 := hS12.rd.same hs1214; clear hs1214 hza)
      | (at_builtin; refine wpList_app1w (by rfl) (.tmp 78) (.tmp 79) 34 (by rfl) (by rfl) (by rfl) hap1 ?_)
      | (at_builtin; refine wpList_app1w (by rfl) (.tmp 80) (.tmp 84) 34 (by rfl) (by rfl) (by rfl) hap2 ?_)
      | (go_at_call 19; with_reducible refine (lis_calls (c := c12) (cB := d2) hk12 hB2.rd (by omega) (by omega)).mono ?_; rw [HBQ.out]; rintro e15 w15 ⟨rfl, hs15⟩; have hq15 := hq14.same hs15)
      | (go_at_call 39; with_reducible refine (HTXT.out _ hq15).mono ?_; clear HTXT; rintro e16 w16 ⟨rfl, hs16⟩; have hq16 := hq15.same hs16)
      | (go_at_call 40; with_reducible refine (HRTX.out _ hq16).mono ?_; clear HRTX; rintro e17 w17 ⟨rfl, hs17⟩; have hq17 := hq16.same hs17)
      | (go_at_call 41; with_reducible refine (HSIZ.out _ hq17).mono ?_; clear HSIZ; rintro e18 w18 ⟨rfl, hs18⟩; have hq18 := hq17.same hs18)
      | (go_at_call 40; with_reducible refine (HRTX2.out _ hq18).mono ?_; clear HRTX2; rintro e19 w19 ⟨rfl, hs19⟩; have hq19 := hq18.same hs19)
      | (go_at_call 42; with_reducible refine (HTOK.out _ hq19).mono ?_; clear HTOK; rintro e20 w20 ⟨T20, k20, c20, rfl, hT20, hs20, _⟩; have hq20 := hq19.same hs20; have hk20 := hT20.len; subst hk20)
      | (go_at_call 43; with_reducible refine (HRTO.out _ hq20).mono ?_; clear HRTO; rintro e21 w21 ⟨T21, k21, c21, rfl, hT21, hs21, _⟩; have hq21 := hq20.same hs21; have hk21 := hT21.len; subst hk21)
      | (go_at_call 34; with_reducible refine (ssame_calls (c := c20) (cB := c21) (hT20.rd.same hs21) hT21.rd (by omega)).mono ?_; rintro e22 w22 ⟨rfl, hs22⟩; have hq22 := hq21.same hs22))
    go_ret
    exact ⟨rfl, (hst5.same hq22).below (Nat.le_refl _) (fun _ h => h.elim)⟩
end Go.Proofs.YtcpblhcpjjpffaaDoor.Fie
