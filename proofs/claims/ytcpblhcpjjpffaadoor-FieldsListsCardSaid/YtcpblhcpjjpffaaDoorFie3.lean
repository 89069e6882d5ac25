/- fields: Clone, DeleteFunc, Drop. Own work of this seat; no condition but on lengths. -/
import Derived.Test.YtcpblhcpjjpffaaDoorFie2
import Derived.Laws.Cover3
namespace Go.Proofs.YtcpblhcpjjpffaaDoor.Fie
open Go.RowKit Go.Proofs.YtcpblhcpjjpffaaDoor.Kit Go.Proofs.YtcpblhcpjjpffaaDoor.Oct Go.Proofs.YtcpblhcpjjpffaaDoor.Cut
set_option linter.unusedVariables false
set_option linter.unusedSimpArgs false

theorem i0fd : ∃ i, Tryd.prog.info? 25 = some i ∧ i.zero = some (.agg #[.string ⟨#[]⟩, .string ⟨#[]⟩]) ∧ i.size = 2 ∧ i.bytes = 32 := by
  obtain ⟨i, hi, hp⟩ := Option.map_eq_some_iff.1 (by kernel_rfl : (Tryd.prog.info? 25).map (fun i => (i.zero, i.size, i.bytes)) = some (some (.agg #[.string ⟨#[]⟩, .string ⟨#[]⟩]), 2, 32))
  simp only [Prod.mk.injEq] at hp
  exact ⟨i, hi, hp⟩
theorem fdcs_cell (l : List Fd) : ∀ v ∈ fdcs l, v.oneCell' = true := by
  intro v hv
  obtain ⟨x, _, hx⟩ := List.mem_flatMap.1 hv
  exact fdc_cell x v hx
/-- append(s, r...) of a row of the call's own and a row that is read. -/
theorem app_fds {w : World} {A : Option Addr} {n c m cB g o : Nat} {l r : List Fd} (h : FW w 25 A n c l) (hr : FRd w (some ⟨g, o, none⟩) m r) (hm0 : A = none → 0 < m) (hb : n + m ≤ 1000000) :
    ∃ A' c' w', (Builtin.append_ #[38, 38] 38 #[.slice A n c, .slice (some ⟨g, o, none⟩) m cB]).run Tryd.prog w = .ok (.slice A' (n + m) c') w' ∧ FW w' 25 A' (n + m) c' (l ++ r) ∧ Step (fun k => blockOf A = some k) w w' ∧ (blockOf A' = blockOf A ∨ ∃ k, blockOf A' = some k ∧ w.heap.size ≤ k) := by
  obtain ⟨i0, hi0, hz0, hs0, hy0⟩ := i0fd
  obtain ⟨A', c', w', h1, h2, h3, h4⟩ := run_append_flat (P := Tryd.prog) (cB := cB) w 38 38 25 i0 _ 2 32 Tryd.underlying38 hi0 hz0 rfl hs0 hy0 (by omega) h (m := m) (r := fdcs r) (aB := ⟨g, o, none⟩) hr.1 hm0 (fdcs_cell r) (fun j v hj => by rw [addr_add']; exact RSeg.cell hr hj) hb
  exact ⟨A', c', w', h1, by unfold FW; rw [fdcs_append]; exact h2, h3, h4⟩
theorem fw_empty (w : World) (T : TypeId) : FW (w.alloc (.cells #[] T)) T (some ⟨w.heap.size, 0, none⟩) 0 0 [] :=
  ⟨rfl, .inr ⟨w.heap.size, #[], rfl, blk_new w [] T, Nat.le_refl _, by simp, fun j v hj => by simp [fdcs] at hj⟩⟩

theorem eqnil (A : Option Addr) (n c : Nat) (w : World) : (binOp .eql 38 (.slice A n c) (.slice none 0 0)).run Tryd.prog w = .ok (.bool A.isNone) w := by
  simp only [binOp]
  simp [run_equal_slice_nil w 38 _ A n c Tryd.underlying38]
set_option maxRecDepth 100000 in
set_option maxHeartbeats 1000000 in
theorem clone_calls {w : World} {A : Option Addr} {n c : Nat} {l : List Fd} (h : FRd w A n l) (hn : n ≤ 1000000) :
    Calls Tryd.prog 53 #[.slice A n c] w fun e w' => ∃ A' c', e = .returned (.slice A' n c') ∧ FW w' 25 A' n c' l ∧ Step (fun _ => False) w w' ∧ (∀ k, blockOf A' = some k → w.heap.size ≤ k) ∧ (A ≠ none → A' ≠ none) := by
  have hl := h.len
  cases A with
  | none =>
    have h0 : n = 0 := by
      rcases Nat.eq_zero_or_pos n with e | e
      · exact e
      · obtain ⟨g, o, e2⟩ := RSeg.isSome h (by omega) e
        cases e2
    subst h0
    obtain rfl := List.eq_nil_of_length_eq_zero hl
    clear h
    have hq := fun w => eqnil none 0 c w
    go_enter Tryd.func53, Tryd.ntmps53
    go_wp2
    go_ret
    exact ⟨none, 0, rfl, fseg_nil _ _ _, Step.refl _ _, (fun k hk => by cases hk), fun h => absurd rfl h⟩
  | some a =>
    have ha : (∃ g o, a = ⟨g, o, none⟩) ∨ n = 0 := by
      rcases Nat.eq_zero_or_pos n with e | e
      · exact .inr e
      · obtain ⟨g, o, e2⟩ := RSeg.isSome h (by omega) e
        cases e2
        exact .inl ⟨g, o, rfl⟩
    have hal : Step (fun _ => False) w (w.alloc (.cells #[] 25)) := (Step.refl _ _).alloc _
    have hap : ∃ A' c' w', (Builtin.append_ #[38, 38] 38 #[.slice (some ⟨w.heap.size, 0, none⟩) 0 0, .slice (some a) n c]).run Tryd.prog (w.alloc (.cells #[] 25)) = .ok (.slice A' n c') w' ∧ FW w' 25 A' n c' l ∧ Step (fun _ => False) w w' ∧ (∀ k, blockOf A' = some k → w.heap.size ≤ k) ∧ A' ≠ none := by
      obtain ⟨i0, hi0, hz0, hs0, hy0⟩ := i0fd
      obtain ⟨A', c', w', h1, h2, h3, h4⟩ := run_append_flat (P := Tryd.prog) (cB := c) (w.alloc (.cells #[] 25)) 38 38 25 i0 _ 2 32 Tryd.underlying38 hi0 hz0 rfl hs0 hy0 (by omega) (fw_empty w 25) (m := n) (r := fdcs l) (aB := a) h.1 (fun e => by cases e) (fdcs_cell l) (fun j v hj => by
        have hh := (h.same hal).2 j v hj
        obtain ⟨g, o, e, hc⟩ := hh
        cases e
        rw [addr_add']
        exact hc) (by omega)
      rw [Nat.zero_add] at h1 h2
      have hz : (w.alloc (.cells #[] 25)).heap.size = w.heap.size + 1 := by show (w.heap.push _).size = _; simp
      refine ⟨A', c', w', h1, by unfold FW; simpa [fdcs] using h2, hal.trans h3 (fun j hj e => by have : w.heap.size = j := Option.some.inj e; omega), fun k hk => ?_, fun e => ?_⟩
      rcases h4 with e | ⟨j, e, hj⟩
      · rw [e] at hk
        have : w.heap.size = k := Option.some.inj hk
        omega
      · rw [hk] at e
        cases e
        omega
      · subst e
        rcases h4 with e | ⟨j, e, hj⟩ <;> cases e
    obtain ⟨A', c', w', hap, hF, hst, hfr, hnn⟩ := hap
    clear h hal ha
    have hq := fun w => eqnil (some a) n c w
    go_enter Tryd.func53, Tryd.ntmps53
    go_wp2_with (at_builtin; refine wpList_app1 (by rfl) (.tmp 5) (.tmp 6) 38 (by rfl) (by rfl) (by rfl) hap ?_)
    go_ret
    exact ⟨A', c', rfl, hF, hst, hfr, fun _ => hnn⟩
theorem fdcs_take (l : List Fd) : ∀ m, (fdcs l).take (m * 2) = fdcs (l.take m) := by
  induction l with
  | nil => intro m; simp [fdcs]
  | cons x r ih =>
    intro m
    cases m with
    | zero => simp [fdcs]
    | succ m =>
      have e : fdcs (x :: r) = .string x.nm :: .string x.vl :: fdcs r := rfl
      have e2 : (m + 1) * 2 = m * 2 + 1 + 1 := by omega
      rw [e, e2, List.take_succ_cons, List.take_succ_cons, ih m, List.take_succ_cons]
      rfl
theorem fdcs_drop (l : List Fd) : ∀ m, (fdcs l).drop (m * 2) = fdcs (l.drop m) := by
  induction l with
  | nil => intro m; simp [fdcs]
  | cons x r ih =>
    intro m
    cases m with
    | zero => simp
    | succ m =>
      have e : fdcs (x :: r) = .string x.nm :: .string x.vl :: fdcs r := rfl
      have e2 : (m + 1) * 2 = m * 2 + 1 + 1 := by omega
      rw [e, e2, List.drop_succ_cons, List.drop_succ_cons, ih m, List.drop_succ_cons]
theorem fdcs_store (l : List Fd) (m : Nat) (x : Fd) (hm : m < l.length) : (fdcs l).take (m * 2) ++ [.string x.nm, .string x.vl] ++ (fdcs l).drop (m * 2 + 2) = fdcs (l.set m x) := by
  have e1 : m * 2 + 2 = (m + 1) * 2 := by omega
  rw [e1, fdcs_take, fdcs_drop, List.set_eq_take_append_cons_drop, if_pos hm, fdcs_append]
  have e2 : fdcs (x :: l.drop (m + 1)) = .string x.nm :: .string x.vl :: fdcs (l.drop (m + 1)) := rfl
  rw [e2]
  simp
theorem filt_step {p : Fd → Bool} {l : List Fd} {j : Nat} {x : Fd} (h : l[j]? = some x) : (l.take (j + 1)).filter (fun y => !p y) = if p x = true then (l.take j).filter (fun y => !p y) else (l.take j).filter (fun y => !p y) ++ [x] := by
  rw [List.take_add_one, h, List.filter_append]
  cases hp : p x <;> simp [hp]
theorem filt_len (p : Fd → Bool) (l : List Fd) (j : Nat) : ((l.take j).filter (fun y => !p y)).length ≤ j := Nat.le_trans (List.length_filter_le _ _) (by rw [List.length_take]; omega)
theorem hzv (w : World) : (zeroValue 25).run Tryd.prog w = .ok (.agg #[.string ⟨#[]⟩, .string ⟨#[]⟩]) w := by kernel_rfl
set_option maxRecDepth 100000 in
set_option maxHeartbeats 4000000 in
theorem delete_calls {w : World} {A : Option Addr} {n c g xb : Nat} {l : List Fd} (hA : FW w 25 A n c l) (hc : n ≤ 1000000) (p : Fd → Bool) (eg : ∀ args w, (callFunc g args).run Tryd.prog w = .ok (.enter g args) w)
    (hp : ∀ W, Step (fun k => blockOf A = some k) w W → ∀ x ∈ l, Calls Tryd.prog g #[.agg #[.string x.nm, .string x.vl], .pointer (some ⟨xb, 0, none⟩)] W fun e w' => e = .returned (.bool (p x)) ∧ Step (fun _ => False) W w') :
    Calls Tryd.prog 52 #[.slice A n c, .func (.func g) #[] #[.pointer (some ⟨xb, 0, none⟩)]] w fun e w' => ∃ m, e = .returned (.slice A m c) ∧ FW w' 25 A m c (l.filter (fun y => !p y)) ∧ Step (fun k => blockOf A = some k) w w' := by
  have hn := hA.len
  have HI := Lib.hid (ixf_calls (c := c) (g := g) (xb := xb) hA.rd hc p eg (fun W hs x hx => hp W (hs.mono (fun _ _ h => h.elim)) x hx))
  cases hf : l.findIdx? p with
  | none =>
    rw [hf] at HI
    have he : l.filter (fun y => !p y) = l := by
      rw [List.findIdx?_eq_none_iff] at hf
      exact List.filter_eq_self.2 (fun x hx => by rw [hf x hx]; rfl)
    rw [he]
    simp only [ixOf] at HI
    clear hp hf he
    go_enter Tryd.func52, Tryd.ntmps52
    go_wp2_with (go_at_call 66; refine HI.out.mono ?_; rintro e1 w1 ⟨rfl, hs1⟩)
    go_ret
    exact ⟨n, rfl, hA.keep hs1 (fun _ _ h => h), hs1.mono (fun _ _ h => h.elim)⟩
  | some i =>
    rw [hf] at HI
    simp only [ixOf] at HI
    rw [List.findIdx?_eq_some_iff_getElem] at hf
    obtain ⟨hil, hpi, hbef⟩ := hf
    have hin : i < n := by omega
    have hbef' : ∀ j, j ≤ i → (l.take j).filter (fun y => !p y) = l.take j := fun j hj => List.filter_eq_self.2 (fun x hx => by
      obtain ⟨k, hk⟩ := List.getElem?_of_mem hx
      have hkj : k < j := by have := (List.getElem?_eq_some_iff.1 hk).1; rw [List.length_take] at this; omega
      rw [List.getElem?_take_of_lt hkj] at hk
      have hkl := (List.getElem?_eq_some_iff.1 hk).1
      have := hbef k (by omega)
      rw [(List.getElem?_eq_some_iff.1 hk).2] at this
      simp at this
      rw [this]; rfl)
    have hst0 : (l.take (i + 1)).filter (fun y => !p y) = l.take i := by rw [filt_step (List.getElem?_eq_getElem hil), if_pos hpi, hbef' i (Nat.le_refl _)]
    obtain ⟨res, hres0⟩ : ∃ res, l.filter (fun y => !p y) = res := ⟨_, rfl⟩
    rw [hres0]
    have hres := Lib.hid hres0
    have HP := Lib.hid hp
    clear hbef hbef' hpi hres0 hp
    have hm1 : ((i : Int) == -1) = false := by simp
    go_enter Tryd.func52, Tryd.ntmps52
    go_wp2_with (go_at_call 66; refine HI.out.mono ?_; rintro e1 w1 ⟨rfl, hs1⟩)
    have h1 := hA.keep hs1 (fun _ _ h => h)
    obtain ⟨g0, rfl⟩ := FSeg.isSome h1 (by omega)
    have hst0 := Lib.hid hst0
    clear HI hA
    go_loopw [5, 6] (fun v5 v6 wr => ∃ (i j : Nat) (L : List Fd), i < j ∧ j ≤ n ∧ v5 = .int .i64 (i : Int) ∧ v6 = .int .i64 (j : Int) ∧ FW wr 25 (some ⟨g0, 0, none⟩) n c L ∧ L.take i = (l.take j).filter (fun y => !p y) ∧ i = ((l.take j).filter (fun y => !p y)).length ∧ L.drop j = l.drop j ∧ Step (fun k => k = g0) w1 wr) (fun _ v _ => n - (intOf v).toNat)
    case atStart => exact ⟨i, i + 1, l, by omega, by omega, by go_num, by go_num, h1, hst0.out.symm, by rw [hst0.out, List.length_take]; omega, rfl, Step.refl _ _⟩
    case round =>
      clear hst0 h1
      obtain ⟨i, j, L, hij, hj, rfl, rfl, hL, htk0, hli0, hdr, hS⟩ := hrel
      have htk := Lib.hid htk0
      have hli := Lib.hid hli0
      clear htk0 hli0
      have hLn := hL.len
      by_cases hlt : j < n
      · have hlt' : (j : Int) < (n : Int) := by omega
        have hjL : j < L.length := by omega
        have hjl : j < l.length := by omega
        have hxe : L[j] = l[j] := by
          have h1 : (L.drop j)[0]? = (l.drop j)[0]? := by rw [hdr]
          rw [List.getElem?_drop, List.getElem?_drop, Nat.add_zero, List.getElem?_eq_getElem hjL, List.getElem?_eq_getElem hjl] at h1
          exact Option.some.inj h1
        have hje : l[j]? = some l[j] := List.getElem?_eq_getElem hjl
        have hJe : L[j]? = some l[j] := by rw [List.getElem?_eq_getElem hjL, hxe]
        obtain ⟨c0, c1⟩ := FRd.cells hL.rd hJe
        rw [Nat.zero_add] at c0 c1
        have hnext := filt_step (p := p) hje
        have hdr1 : L.drop (j + 1) = l.drop (j + 1) := by
          have := congrArg (List.drop 1) hdr
          simpa [List.drop_drop, Nat.add_comm] using this
        have hwr : Step (fun k => blockOf (some (⟨g0, 0, none⟩ : Addr)) = some k) w wr := (hs1.mono (fun _ _ h => h.elim)).same (hS.mono (fun k _ e => by rw [e]; rfl))
        have HD := Lib.hid (fun w2 (h2 : Step (fun _ => False) wr w2) => HP.out w2 (hwr.same (h2.mono (fun _ _ h => h.elim))) l[j] (List.getElem_mem hjl))
        clear hxe hje hJe hdr hwr
        generalize l[j] = x at *
        obtain ⟨x0, x1⟩ := x
        obtain ⟨bb, hbb⟩ : ∃ bb, p ⟨x0, x1⟩ = bb := ⟨_, rfl⟩
        have HD1 := fun w2 h2 => (HD.out w2 h2)
        simp only [hbb] at HD1 hnext
        have HD1 := Lib.hid HD1
        have hnext := Lib.hid hnext
        clear HD hbb
        have hgl : g0 < wr.heap.size := FSeg.lt hL rfl
        go_upto_region 8 with (fail)
        refine alloc_next (cs := [.string x0, .string x1]) ?_
        intro w2 hE hs2
        have HSW2 := Lib.hid (HD1.out w2 hs2)
        have hL2 := hL.keep hs2 (fun _ _ h => h)
        clear HD1 c0 c1
        generalize wr.heap.size = eb at *
        have e0 := hE.cell (i := 0) rfl
        have e1 := hE.cell (i := 1) rfl
        cases bb with
        | true =>
          go_wp2_with (go_at_fn g; refine HSW2.out.mono ?_; rintro e3 w3 ⟨rfl, hs3⟩)
          exact ⟨⟨i, j + 1, L, by omega, by omega, rfl, by go_num, hL2.keep hs3 (fun _ _ h => h), by rw [hnext.out]; exact htk.out, by rw [hnext.out]; exact hli.out, hdr1, (hS.trans hs2 (fun _ _ h => h.elim)).trans hs3 (fun _ _ h => h.elim)⟩, by simp [intOf]; omega⟩
        | false =>
          go_upto_region 9 with (go_at_fn g; refine HSW2.out.mono ?_; rintro e3 w3 ⟨rfl, hs3⟩)
          have hE3 := hE.keep hs3 (fun h => h)
          have d0 := hE3.cell (i := 0) rfl
          have d1 := hE3.cell (i := 1) rfl
          have hL3 := hL2.keep hs3 (fun _ _ h => h)
          clear e0 e1 HSW2
          have hin' : i < n := by omega
          go_wp2_with (refine wpList_store_flat (k := 2) rfl 25 (.tmp 33) (.tmp 32) rfl (vs := [.string x0, .string x1]) rfl (by kernel_rfl) (cell2 _ _) hL3 hin' rfl rfl ?_; intro w4 hL4 hs4)
          have hst4 := fdcs_store L i ⟨x0, x1⟩ (by omega)
          rw [hst4] at hL4
          refine ⟨⟨i + 1, j + 1, L.set i ⟨x0, x1⟩, by omega, by omega, by go_num, by go_num, hL4, ?_, ?_, ?_, ((hS.trans hs2 (fun _ _ h => h.elim)).trans hs3 (fun _ _ h => h.elim)).trans hs4 (fun _ _ h => h)⟩, by simp [intOf]; omega⟩
          · rw [hnext.out, List.take_add_one, List.take_set_of_le (Nat.le_refl _), List.getElem?_set_self (by omega), htk.out]; rfl
          · rw [hnext.out]; have := hli.out; simp; omega
          · rw [List.drop_set_of_lt (by omega)]; exact hdr1
      · obtain rfl : j = n := by omega
        have hfin : L.take i = res := by rw [htk.out, ← hn, List.take_length]; exact hres.out
        obtain ⟨wc, hclr, hLc, hsc⟩ := run_clear_tail (P := Tryd.prog) 38 0 25 _ 2 Tryd.underlying38 hzv rfl (by decide) (c - i) hL hij
        rw [fdcs_take, hfin] at hLc
        have hle := FSeg.le hL
        have b1 : (i : Int) ≤ (j : Int) := by omega
        have b2 : (j : Int) ≤ (c : Int) := by omega
        have b3 : (i : Int) ≤ (c : Int) := by omega
        have b4 : ¬ (c = i) := by omega
        clear hdr hfin hL
        go_wp2
        go_ret
        exact ⟨i, rfl, hLc, (hs1.mono (fun _ _ h => h.elim)).same ((hS.trans hsc (fun _ _ h => h)).mono (fun k _ e => by rw [e]; rfl))⟩
/-- Drop, by names. -/
def dropF (l : List Fd) (ss : List ByteArray) : List Fd := l.filter (fun x => !(ss.any (sameN x.nm)))
theorem eg54 : ∀ args w, (callFunc 54 args).run Tryd.prog w = .ok (.enter 54 args) w := enters_of Tryd.func54 (by kernel_rfl) rfl
theorem eg67 : ∀ args w, (callFunc 67 args).run Tryd.prog w = .ok (.enter 67 args) w := enters_of Tryd.func67 (by kernel_rfl) rfl
def Sml (l : List Fd) : Prop := ∀ x ∈ l, x.nm.size ≤ 1000000 ∧ x.vl.size ≤ 1000000
set_option maxRecDepth 100000 in
theorem drop_calls {w : World} {A N : Option Addr} {n c m cN : Nat} {l : List Fd} {ss : List ByteArray} (h : FRd w A n l) (hn : n ≤ 1000000) (hS : SRd w N m ss) (hm : m ≤ 1000000) (hs : ∀ s ∈ ss, s.size ≤ 1000000) (hl : Sml l) :
    Calls Tryd.prog 20 #[.slice A n c, .slice N m cN] w fun e w' => ∃ A' k c', e = .returned (.slice A' k c') ∧ FW w' 25 A' k c' (dropF l ss) ∧ Step (fun _ => False) w w' ∧ (∀ k, blockOf A' = some k → w.heap.size ≤ k) ∧ (A ≠ none → A' ≠ none) := by
  have HC := Lib.hid (fun w' (h2 : Step (fun _ => False) w w') => clone_calls (c := c) (h.same h2) hn)
  have HS := Lib.hid (fun w' (h2 : Step (fun _ => False) w w') => hS.same h2)
  have hL := Lib.hid hl
  clear h hS hl
  go_enter Tryd.func20, Tryd.ntmps20
  go_upto_region 1 with (fail)
  refine alloc_next (cs := [.slice N m cN]) ?_
  intro w1 hX hs1
  obtain ⟨xb, hxb⟩ : ∃ xb, w.heap.size = xb := ⟨_, rfl⟩
  rw [hxb] at hX ⊢
  have HX := Lib.hid hX
  have hxl := hX.lt
  clear hX
  go_wp2_with (first
    | (go_at_call 53; refine (HC.out _ hs1).mono ?_; rintro e2 w2 ⟨A2, c2, rfl, hF2, hs2, hf2, hnn2⟩)
    | (go_at_call 52; refine (delete_calls hF2 hn (fun x => ss.any (sameN x.nm)) eg54 (fun W hW x hx => drop1_calls (n := m) (c := cN) (A := N) ((HX.out.keep hs2 (fun h => h)).keep hW (fun h => by have := hf2 _ h; omega)) (HS.out _ (((hs1.same hs2).trans hW (fun j hj h => by have := hf2 _ h; have := hs1.size; omega)))) hm hs x (hL.out x hx).1)).mono ?_; rintro e3 w3 ⟨k, rfl, hF3, hs3⟩))
  go_ret
  have hz1 := hs1.size
  exact ⟨A2, k, c2, rfl, hF3, (hs1.same hs2).trans hs3 (fun j hj h => by have := hf2 _ h; omega), fun j hj => (by have := hf2 _ hj; omega), hnn2⟩
end Go.Proofs.YtcpblhcpjjpffaaDoor.Fie
