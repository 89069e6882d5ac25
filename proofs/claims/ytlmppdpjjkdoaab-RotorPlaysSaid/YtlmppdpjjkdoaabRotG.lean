/- rotor: once, of any entries: slices.IndexFunc and DeleteFunc with the set's closure; of each name the first one stays. Own work of this seat. -/
import Derived.Test.YtlmppdpjjkdoaabRot2
import Derived.Test.YtlmppdpjjkdoaabFlat
namespace Go.Proofs.Ytlmppdpjjkdoaab.Rot
open Go.RowKit Go.Proofs.Ytlmppdpjjkdoaab.Kit Go.Proofs.Ytlmppdpjjkdoaab.PRotorPlays Go.Proofs.YtlmppdpjjkdoaabW.PrintWords Go.Proofs.YtlmppdpjjkdoaabW.PrintLast Go.Proofs.YtlmppdpjjkdoaabW.PrintMore
set_option linter.unusedVariables false
set_option linter.unusedSimpArgs false

/-- Of the first k entries each name's first one. -/
def dd (l : List (ByteArray × Int)) : Nat → List (ByteArray × Int)
  | 0 => []
  | k + 1 => if (dd l k).any (fun x => decide (x.1 = (l.getD k (⟨#[]⟩, 0)).1)) then dd l k else dd l k ++ [l.getD k (⟨#[]⟩, 0)]
theorem dd_length (l : List (ByteArray × Int)) : ∀ k, (dd l k).length ≤ k
  | 0 => Nat.le_refl _
  | k + 1 => by
    have := dd_length l k
    simp only [dd]
    split
    · omega
    · rw [List.length_append]; simp; omega
/-- Is a name among the first k? -/
def had (l : List (ByteArray × Int)) (k : Nat) (t : ByteArray) : Bool := (dd l k).any (fun x => decide (x.1 = t))
theorem dd_step {l : List (ByteArray × Int)} {k : Nat} {e : ByteArray × Int} (h : l[k]? = some e) : dd l (k + 1) = if had l k e.1 then dd l k else dd l k ++ [e] := by
  have e1 : l.getD k (⟨#[]⟩, 0) = e := by simp [List.getD_eq_getElem?_getD, h]
  unfold had
  rw [← e1]
  rfl
theorem had_step {l : List (ByteArray × Int)} {k : Nat} {e : ByteArray × Int} (h : l[k]? = some e) (t : ByteArray) : had l (k + 1) t = (decide (t = e.1) || had l k t) := by
  unfold had
  rw [dd_step h]
  by_cases hh : had l k e.1 = true
  · rw [if_pos hh]
    by_cases ht : t = e.1
    · subst ht
      unfold had at hh
      rw [hh]; simp
    · simp [ht]
  · rw [if_neg hh, List.any_append]
    simp only [List.any_cons, List.any_nil, Bool.or_false]
    rw [Bool.or_comm]
    congr 1
    by_cases ht : t = e.1
    · simp [ht]
    · simp [ht, Ne.symm ht]
/-- Either no name comes twice, or there is a first one that does. -/
theorem dd_cases (l : List (ByteArray × Int)) : ∀ n, n ≤ l.length → (∀ i, i ≤ n → dd l i = l.take i) ∨ ∃ i, ∃ hi : i < l.length, i < n ∧ (∀ j, j ≤ i → dd l j = l.take j) ∧ had l i (l[i]).1 = true
  | 0, _ => .inl (fun i hi => by
    obtain rfl : i = 0 := by omega
    simp [dd])
  | n + 1, hn => by
    rcases dd_cases l n (by omega) with h | ⟨i, hi, hin, h1, h2⟩
    · have hl : n < l.length := by omega
      by_cases hh : had l n (l[n]).1 = true
      · exact .inr ⟨n, hl, by omega, h, hh⟩
      · refine .inl (fun i hi => ?_)
        rcases Nat.lt_or_ge i (n + 1) with h3 | h3
        · exact h i (by omega)
        · obtain rfl : i = n + 1 := by omega
          rw [dd_step (List.getElem?_eq_getElem hl), if_neg hh, h n (Nat.le_refl _), List.take_add_one, List.getElem?_eq_getElem hl]
          rfl
    · exact .inr ⟨i, hi, by omega, h1, h2⟩
theorem had_of_take {l : List (ByteArray × Int)} {i j : Nat} (h : ∀ j, j ≤ i → dd l j = l.take j) (hj : j < i) (hjl : j < l.length) : had l j (l[j]).1 = false := by
  by_cases hh : had l j (l[j]).1 = true
  · have h1 := h (j + 1) (by omega)
    rw [dd_step (List.getElem?_eq_getElem hjl), if_pos hh, h j (by omega), List.take_add_one, List.getElem?_eq_getElem hjl] at h1
    have := congrArg List.length h1
    simp only [List.length_append, List.length_take, Option.toList_some, List.length_cons, List.length_nil] at this
    omega
  · simpa using hh

/-- A row of the rotor's entries. -/
def EF (w : World) (A : Option Addr) (n c : Nat) (l : List (ByteArray × Int)) : Prop := FSeg w 67 2 A n c (ecells l)
theorem ecells_take (l : List (ByteArray × Int)) : ∀ m, (ecells l).take (m * 2) = ecells (l.take m) := by
  induction l with
  | nil => intro m; simp [ecells]
  | cons x r ih =>
    intro m
    cases m with
    | zero => simp [ecells]
    | succ m =>
      have e1 : (m + 1) * 2 = 2 + m * 2 := by omega
      simp only [ecells, List.flatMap_cons, List.take_succ_cons] at ih ⊢
      rw [e1, List.take_append, List.take_of_length_le (by simp), ← ih m]
      congr 2
      simp
theorem ecells_drop (l : List (ByteArray × Int)) : ∀ m, (ecells l).drop (m * 2) = ecells (l.drop m) := by
  induction l with
  | nil => intro m; simp [ecells]
  | cons x r ih =>
    intro m
    cases m with
    | zero => simp [ecells]
    | succ m =>
      have e1 : (m + 1) * 2 = 2 + m * 2 := by omega
      simp only [ecells, List.flatMap_cons, List.drop_succ_cons] at ih ⊢
      rw [e1, List.drop_append, List.drop_of_length_le (by simp), List.nil_append, ← ih m]
      congr 1
      simp
theorem ecells_store (l : List (ByteArray × Int)) (m : Nat) (x : ByteArray × Int) (hm : m < l.length) : (ecells l).take (m * 2) ++ [.string x.1, .int .i64 x.2] ++ (ecells l).drop (m * 2 + 2) = ecells (l.set m x) := by
  rw [show m * 2 + 2 = (m + 1) * 2 by omega, ecells_take, ecells_drop, List.set_eq_take_append_cons_drop, if_pos hm, ecells_append]
  simp [ecells]
section
variable {w w' : World} {A : Option Addr} {n c : Nat} {l : List (ByteArray × Int)} {F : Nat → Prop}
theorem EF.len (h : EF w A n c l) : l.length = n := by have := h.1; rw [ecells_length] at this; omega
theorem EF.keep (h : EF w A n c l) (hs : Step F w w') (hF : ∀ j, blockOf A = some j → ¬ F j) : EF w' A n c l := FSeg.keep h hs hF
theorem EF.cells {g : Nat} (h : EF w (some ⟨g, 0, none⟩) n c l) {i : Nat} {e : ByteArray × Int} (hi : l[i]? = some e) : w.cell? ⟨g, i * 2, none⟩ = some (.string e.1) ∧ w.cell? ⟨g, i * 2 + 1, none⟩ = some (.int .i64 e.2) :=
  ⟨FSeg.cell h (ecells_get l i e hi).1, FSeg.cell h (ecells_get l i e hi).2⟩
theorem EF.row (h : EF w A n c l) : ERow w A l := by
  by_cases hl : l = []
  · exact .inl hl
  · have hn : 0 < n := by rw [← h.len]; exact List.length_pos_iff.2 hl
    obtain ⟨g, rfl⟩ := FSeg.isSome h hn
    exact .inr ⟨g, 0, rfl, fun i e hi => by rw [Nat.zero_add]; exact h.cells hi⟩
end

/-- The set holds the names of the first k. -/
def SetIs (w : World) (b N : Nat) (l : List (ByteArray × Int)) (k : Nat) : Prop := ∃ g, MSet w b N g ∧ ∀ t, g t = had l k t
theorem SetIs.keep {w w' : World} {b N k : Nat} {l : List (ByteArray × Int)} {F : Nat → Prop} (h : SetIs w b N l k) (hs : Step F w w') (hb : ¬ F b) : SetIs w' b N l k := by
  obtain ⟨g, h1, h2⟩ := h
  exact ⟨g, h1.keep hs hb, h2⟩
theorem del_gen {w : World} {v b N k : Nat} {l : List (ByteArray × Int)} (hv : Blk w v 91 [.map (some b)]) (hm : SetIs w b N l k) (hne : v ≠ b) (hn : N ≤ 1000000) {e : ByteArray × Int} (he : l[k]? = some e) (hs : e.1.size ≤ 1000) :
    Calls Try.prog 49 #[.agg #[.string e.1, .int .i64 e.2], .pointer (some ⟨v, 0, none⟩)] w fun e' w' => e' = .returned (.bool (had l k e.1)) ∧ SetIs w' b (N + 1) l (k + 1) ∧ Step (· = b) w w' := by
  obtain ⟨g, h1, h2⟩ := hm
  have := del_calls hv h1 hne hn e hs
  rw [h2] at this
  exact this.mono fun e' w' h => ⟨h.1, ⟨_, h.2.1, fun t => by rw [had_step he, h2]⟩, h.2.2⟩

set_option maxRecDepth 100000 in
set_option maxHeartbeats 1000000 in
/-- IndexFunc stops at i (at the end: -1). -/
theorem index_gen {w : World} {A : Option Addr} {n c : Nat} {l : List (ByteArray × Int)} {v b N : Nat} (hA : EF w A n c l) (hAb : ∀ k, blockOf A = some k → k ≠ b) (hv : Blk w v 91 [.map (some b)]) (hm : SetIs w b N l 0) (hne : v ≠ b)
    (hsh : Short l) (hN : N + n ≤ 100000) {i : Nat} (hi : i ≤ n) (hno : ∀ j (hj : j < l.length), j < i → had l j (l[j]).1 = false) (hyes : ∀ (h : i < l.length), had l i (l[i]).1 = true) :
    Calls Try.prog 51 #[.slice A n c, .func (.func 49) #[] #[.pointer (some ⟨v, 0, none⟩)]] w fun e w' => e = .returned (.int .i64 (if i < n then (i : Int) else -1)) ∧ SetIs w' b (N + (if i < n then i + 1 else n)) l (if i < n then i + 1 else n) ∧ Step (· = b) w w' := by
  have hn := hA.len
  obtain ⟨r, hr0⟩ : ∃ r : Int, (if i < n then (i : Int) else -1) = r := ⟨_, rfl⟩
  obtain ⟨m, hm0⟩ : ∃ m : Nat, (if i < n then i + 1 else n) = m := ⟨_, rfl⟩
  rw [hr0, hm0]
  have hr := Lib.hid hr0
  have hmm := Lib.hid hm0
  clear hr0 hm0
  go_enter Try.func51, Try.ntmps51
  go_wp2
  go_loopw [8] (fun v8 wr => ∃ (j : Nat), j ≤ i ∧ v8 = .int .i64 (j : Int) ∧ SetIs wr b (N + j) l j ∧ Step (· = b) w wr) (fun v _ => n - (intOf v).toNat)
  case atStart => exact ⟨0, by omega, rfl, hm, Step.refl _ _⟩
  case round =>
    obtain ⟨j, hj, rfl, hmj, hS⟩ := hrel
    by_cases hlt : j < n
    · have hlt' : (j : Int) < (n : Int) := by omega
      have hjl : j < l.length := by omega
      have hA' := hA.keep hS hAb
      obtain ⟨g, rfl⟩ := FSeg.isSome hA' (by omega)
      have hje : l[j]? = some l[j] := List.getElem?_eq_getElem hjl
      obtain ⟨d0, d1⟩ := hA'.cells hje
      have hs := hsh l[j] (List.getElem_mem hjl)
      have HD := del_gen (hv.keep hS hne) hmj hne (by omega) hje hs
      by_cases hji : j < i
      · rw [hno j hjl hji] at HD
        clear hno hyes hA'
        generalize l[j] = e at *
        obtain ⟨s, z⟩ := e
        go_wp2_with (go_at_call 49; refine HD.mono ?_; rintro e1 w1 ⟨rfl, hm1, hs1⟩)
        exact ⟨⟨j + 1, by omega, by go_num, by rw [← Nat.add_assoc]; exact hm1, hS.same hs1⟩, by simp [intOf]; omega⟩
      · obtain rfl : j = i := by omega
        rw [hyes hjl] at HD
        obtain rfl : r = (j : Int) := by rw [← hr.out, if_pos hlt]
        obtain rfl : m = j + 1 := by rw [← hmm.out, if_pos hlt]
        clear hno hyes hA' hr hmm
        generalize l[j] = e at *
        obtain ⟨s, z⟩ := e
        go_wp2_with (go_at_call 49; refine HD.mono ?_; rintro e1 w1 ⟨rfl, hm1, hs1⟩)
        go_ret
        exact ⟨rfl, by rw [← Nat.add_assoc]; exact hm1, hS.same hs1⟩
    · have hjn : j = n := by omega
      have hin : ¬ i < n := by omega
      obtain rfl : r = -1 := by rw [← hr.out, if_neg hin]
      obtain rfl : m = n := by rw [← hmm.out, if_neg hin]
      subst hjn
      clear hno hyes hr hmm
      go_wp2
      go_ret
      exact ⟨rfl, hmj, hS⟩

set_option maxRecDepth 100000 in
set_option maxHeartbeats 2000000 in
/-- Of each name the first one stays. -/
theorem delete_gen {w : World} {A : Option Addr} {n c : Nat} {l : List (ByteArray × Int)} {v b : Nat} (hA : EF w A n c l) (hAb : ∀ k, blockOf A = some k → k ≠ b ∧ k ≠ v) (hv : Blk w v 91 [.map (some b)]) (hm : SetIs w b 0 l 0) (hne : v ≠ b)
    (hsh : Short l) (hN : n ≤ 10000) :
    Calls Try.prog 47 #[.slice A n c, .func (.func 49) #[] #[.pointer (some ⟨v, 0, none⟩)]] w fun e w' => ∃ n', e = .returned (.slice A n' c) ∧ EF w' A n' c (dd l n) ∧ Step (fun k => k = b ∨ blockOf A = some k) w w' := by
  have hn := hA.len
  obtain ⟨i0, hi0, hp⟩ : ∃ i, Try.prog.info? 67 = some i ∧ (i.zero, i.size, i.bytes) = (some (.agg #[.string ⟨#[]⟩, .int .i64 0]), 2, 24) := by
    exact Option.map_eq_some_iff.1 (by kernel_rfl : (Try.prog.info? 67).map (fun i => (i.zero, i.size, i.bytes)) = some (some (.agg #[.string ⟨#[]⟩, .int .i64 0]), 2, 24))
  simp only [Prod.mk.injEq] at hp
  obtain ⟨hz0, hs0, hy0⟩ := hp
  have hzv : ∀ w, (zeroValue 67).run Try.prog w = .ok (.agg #[.string ⟨#[]⟩, .int .i64 0]) w := fun w => by simp [zeroValue, typeInfo, hi0, hz0]
  rcases dd_cases l n (by omega) with hall | ⟨i, hil, hin, hbef, hyes⟩
  · have HI := index_gen hA (fun k hk => (hAb k hk).1) hv hm hne hsh (by omega) (i := n) (Nat.le_refl _) (fun j hj hjn => had_of_take hall hjn hj) (fun h => by omega)
    rw [if_neg (by omega), if_neg (by omega)] at HI
    have hddn : dd l n = l := by rw [hall n (Nat.le_refl _), List.take_of_length_le (by omega)]
    rw [hddn]
    clear hall hddn
    go_enter Try.func47, Try.ntmps47
    go_wp2_with (go_at_call 51; refine HI.mono ?_; rintro e1 w1 ⟨rfl, hm1, hs1⟩)
    go_ret
    exact ⟨n, rfl, hA.keep hs1 (fun k hk e => (hAb k hk).1 e), hs1.mono (fun _ _ h => .inl h)⟩
  · have HI := index_gen hA (fun k hk => (hAb k hk).1) hv hm hne hsh (by omega) (i := i) (by omega) (fun j hj hji => had_of_take hbef hji hj) (fun h => hyes)
    rw [if_pos hin, if_pos hin] at HI
    have hst0 : dd l (i + 1) = l.take i := by rw [dd_step (List.getElem?_eq_getElem hil), if_pos hyes, hbef i (Nat.le_refl _)]
    obtain ⟨res, hres0⟩ : ∃ res, dd l n = res := ⟨_, rfl⟩
    rw [hres0]
    have hres := Lib.hid hres0
    clear hbef hyes hres0
    have hm1 : ((i : Int) == -1) = false := by simp
    go_enter Try.func47, Try.ntmps47
    go_wp2_with (go_at_call 51; refine HI.mono ?_; rintro e1 w1 ⟨rfl, hS1, hs1⟩)
    have h1 := hA.keep hs1 (fun k hk e => (hAb k hk).1 e)
    have hv1 := hv.keep hs1 hne
    obtain ⟨g, rfl⟩ := FSeg.isSome h1 (by omega)
    have hgb := hAb g rfl
    have hst0 := Lib.hid hst0
    clear HI hA hv hm hAb
    go_loopw [5, 6] (fun v5 v6 wr => ∃ (i j : Nat) (L : List (ByteArray × Int)), i < j ∧ j ≤ n ∧ v5 = .int .i64 (i : Int) ∧ v6 = .int .i64 (j : Int) ∧ EF wr (some ⟨g, 0, none⟩) n c L ∧ L.take i = dd l j ∧ i = (dd l j).length ∧ L.drop j = l.drop j ∧ SetIs wr b (0 + j) l j ∧ Step (fun k => k = b ∨ k = g) w1 wr) (fun _ v _ => n - (intOf v).toNat)
    case atStart => exact ⟨i, i + 1, l, by omega, by omega, by go_num, by go_num, h1, hst0.out.symm, by rw [hst0.out, List.length_take]; omega, rfl, hS1, Step.refl _ _⟩
    case round =>
      clear hst0 hS1 h1
      obtain ⟨i, j, L, hij, hj, rfl, rfl, hL, htk0, hli0, hdr, hSj, hS⟩ := hrel
      have htk := Lib.hid htk0
      have hli := Lib.hid hli0
      clear htk0 hli0
      have hLn := hL.len
      by_cases hlt : j < n
      · have hlt' : (j : Int) < (n : Int) := by omega
        have hjL : j < L.length := by omega
        have hjl : j < l.length := by omega
        have hxe : L[j] = l[j] := by
          have h1 : (L.drop j)[0]? = (l.drop j)[0]? := by rw [hdr]
          rw [List.getElem?_drop, List.getElem?_drop, Nat.add_zero, List.getElem?_eq_getElem hjL, List.getElem?_eq_getElem hjl] at h1
          exact Option.some.inj h1
        have hje : l[j]? = some l[j] := List.getElem?_eq_getElem hjl
        have hJe : L[j]? = some l[j] := by rw [List.getElem?_eq_getElem hjL, hxe]
        obtain ⟨c0, c1⟩ := hL.cells hJe
        have hs := hsh l[j] (List.getElem_mem hjl)
        have hnext := dd_step hje
        have hdr1 : L.drop (j + 1) = l.drop (j + 1) := by
          have := congrArg (List.drop 1) hdr
          simpa [List.drop_drop, Nat.add_comm] using this
        have HD := fun w2 (h2 : Step (fun _ => False) wr w2) => del_gen ((hv1.keep hS (fun e => by rcases e with e | e; exact hne e; exact hgb.2 e.symm)).keep h2 (fun h => h)) (hSj.keep h2 (fun h => h)) hne (by omega) hje hs
        have HD := Lib.hid HD
        clear hxe hje hJe hdr
        generalize l[j] = x at *
        obtain ⟨x0, x1⟩ := x
        obtain ⟨bb, hbb⟩ : ∃ bb, had l j x0 = bb := ⟨_, rfl⟩
        have HD1 := fun w2 h2 => (HD.out w2 h2)
        simp only [hbb] at HD1 hnext
        have HD1 := Lib.hid HD1
        have hnext := Lib.hid hnext
        clear HD hbb
        go_upto_region 8 with (fail)
        refine alloc_next (cs := [.string x0, .int .i64 x1]) ?_
        intro w2 hE hs2
        have HSW2 := HD1.out w2 hs2
        have hebb : wr.heap.size ≠ b := by
          obtain ⟨gg, hgg, _⟩ := hSj
          have := hgg.lt
          omega
        have hL2 := hL.keep hs2 (fun _ _ h => h)
        clear HD1 c0 c1
        generalize wr.heap.size = eb at *
        have e0 := hE.cell (i := 0) rfl
        have e1 := hE.cell (i := 1) rfl
        cases bb with
        | true =>
          go_wp2_with (go_at_call 49; refine HSW2.mono ?_; rintro e3 w3 ⟨rfl, hSS, hs3⟩)
          exact ⟨⟨i, j + 1, L, by omega, by omega, rfl, by go_num, hL2.keep hs3 (fun k hk e => hgb.1 (by rw [← e]; exact Option.some.inj hk)), by rw [hnext.out]; exact htk.out, by rw [hnext.out]; exact hli.out, hdr1, by rw [← Nat.add_assoc]; exact hSS, (hS.trans hs2 (fun _ _ h => h.elim)).trans hs3 (fun _ _ h => .inl h)⟩, by simp [intOf]; omega⟩
        | false =>
          go_upto_region 9 with (go_at_call 49; refine HSW2.mono ?_; rintro e3 w3 ⟨rfl, hSS, hs3⟩)
          have hE3 := hE.keep hs3 hebb
          have d0 := hE3.cell (i := 0) rfl
          have d1 := hE3.cell (i := 1) rfl
          have hL3 := hL2.keep hs3 (fun k hk e => hgb.1 (by rw [← e]; exact Option.some.inj hk))
          clear e0 e1 HSW2
          have hin' : i < n := by omega
          go_wp2_with (refine wpList_store_flat (k := 2) rfl 67 (.tmp 33) (.tmp 32) rfl (vs := [.string x0, .int .i64 x1]) rfl (by kernel_rfl) (fun v hv => ecells_one [(x0, x1)] v (by simpa [ecells] using hv)) hL3 hin' rfl rfl ?_; intro w4 hL4 hs4)
          have hst4 := ecells_store L i (x0, x1) (by omega)
          rw [hst4] at hL4
          refine ⟨⟨i + 1, j + 1, L.set i (x0, x1), by omega, by omega, by go_num, by go_num, hL4, ?_, ?_, ?_, ?_, ((hS.trans hs2 (fun _ _ h => h.elim)).trans hs3 (fun _ _ h => .inl h)).trans hs4 (fun _ _ h => .inr h)⟩, by simp [intOf]; omega⟩
          · rw [hnext.out, List.take_add_one, List.take_set_of_le (Nat.le_refl _), List.getElem?_set_self (by omega), htk.out]; rfl
          · rw [hnext.out]; have := hli.out; simp; omega
          · rw [List.drop_set_of_lt (by omega)]; exact hdr1
          · rw [← Nat.add_assoc]
            exact hSS.keep hs4 (fun e => hgb.1 e.symm)
      · obtain rfl : j = n := by omega
        have hfin : L.take i = res := htk.out.trans hres.out
        obtain ⟨wc, hclr, hLc, hsc⟩ := run_clear_tail (P := Try.prog) 74 0 67 _ 2 Try.underlying74 hzv rfl (by decide) (c - i) hL hij
        rw [ecells_take, hfin] at hLc
        have hle := FSeg.le hL
        have b1 : (i : Int) ≤ (j : Int) := by omega
        have b2 : (j : Int) ≤ (c : Int) := by omega
        have b3 : (i : Int) ≤ (c : Int) := by omega
        have b4 : ¬ (c = i) := by omega
        clear hdr hfin hL
        go_wp2
        go_ret
        exact ⟨i, rfl, hLc, ((hs1.mono (fun _ _ h => .inl h)).same ((hS.trans hsc (fun _ _ h => .inr h)).mono (fun k _ e => by
          rcases e with e | e
          · exact .inl e
          · exact .inr (by rw [e]; rfl))))⟩
end Go.Proofs.Ytlmppdpjjkdoaab.Rot
