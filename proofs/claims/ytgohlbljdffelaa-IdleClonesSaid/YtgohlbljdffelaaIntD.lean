/- idle: DeleteFunc of one number, Clone, Numbers. Own work of this seat. -/
import Derived.Test.YtgohlbljdffelaaIntS
namespace Go.Proofs.Ytgohlbljdffelaa.IntS
open Go.RowKit Go.Proofs.Ytgohlbljdffelaa.Kit
set_option linter.unusedVariables false
set_option linter.unusedSimpArgs false

def without (p : Int) (l : List Int) : List Int := l.filter (fun x => !decide (x = p))
theorem without_none {p : Int} {l : List Int} (h : ∀ x ∈ l, x ≠ p) : without p l = l := by
  unfold without
  rw [List.filter_eq_self]
  intro x hx
  simp [h x hx]

set_option maxRecDepth 100000 in
set_option maxHeartbeats 1000000 in
theorem delete_calls {w : World} {A : Option Addr} {n c : Nat} {l : List Int} {v : Nat} {p : Int} (hv : Blk w v 3 [.int .i64 p]) (hvA : blockOf A ≠ some v) (h : ISeg w A n c l) (hmax : n ≤ 1000000) :
    Calls Try.prog 38 #[.slice A n c, .func (.func 39) #[] #[.pointer (some ⟨v, 0, none⟩)]] w fun e w' => e = .returned (.slice A (without p l).length c) ∧ ISeg w' A (without p l).length c (without p l) ∧ Step (fun k => blockOf A = some k) w w' := by
  have hn := h.len
  have HI := index_calls hv h hmax
  have hzv : ∀ w, (zeroValue 3).run Try.prog w = .ok (.int .i64 0) w := fun w => by kernel_rfl
  rcases ix_cases p l with ⟨hx, hno⟩ | ⟨i, hi, hx, hyes, hbef⟩
  · rw [hx] at HI
    have hsw := without_none hno
    rw [hsw, hn]
    clear hno hx
    go_enter Try.func38, Try.ntmps38
    go_wp2_with (go_at_call 61; refine HI.mono ?_; rintro e1 w1 ⟨rfl, rfl⟩)
    go_ret
    exact ⟨rfl, h, Step.refl _ _⟩
  · rw [hx] at HI
    clear hx
    have hin : i < n := by omega
    have hst0 : without p (l.take (i + 1)) = l.take i := by
      unfold without
      rw [List.take_add_one, List.getElem?_eq_getElem hi, List.filter_append]
      have e1 := without_none (p := p) (l := l.take i) (fun x hx => by
        obtain ⟨j, hj, rfl⟩ := List.mem_iff_getElem.1 hx
        rw [List.length_take] at hj
        rw [List.getElem_take]
        exact hbef j (by omega))
      unfold without at e1
      rw [e1]
      simp [hyes]
    clear hbef hyes
    have hm1 : ((i : Int) == -1) = false := by simp
    have HC0 := fun w' (hs : Step (fun k => blockOf A = some k) w w') (x : Int) => drop1_calls (w := w') x (hv.keep hs hvA)
    have HC := Lib.hid HC0
    clear HC0
    go_enter Try.func38, Try.ntmps38
    go_wp2_with (go_at_call 61; refine HI.mono ?_; rintro e1 w1 ⟨rfl, rfl⟩)
    obtain ⟨g, rfl⟩ := h.one hin
    clear HI
    go_loopw [5, 6] (fun v5 v6 wr => ∃ (i j : Nat) (L : List Int), i < j ∧ j ≤ n ∧ v5 = .int .i64 (i : Int) ∧ v6 = .int .i64 (j : Int) ∧ ISeg wr (some ⟨g, 0, none⟩) n c L ∧ L.take i = without p (l.take j) ∧ L.drop j = l.drop j ∧ Step (fun k => blockOf (some ⟨g, 0, none⟩) = some k) w wr) (fun _ v _ => n - (intOf v).toNat)
    case atStart => exact ⟨i, i + 1, l, by omega, by omega, by go_num, by go_num, h, hst0.symm, rfl, Step.refl _ _⟩
    case round =>
      clear h hst0
      obtain ⟨i, j, L, hij, hj, rfl, rfl, hL, htk, hdr, hS⟩ := hrel
      have hLn := hL.len
      by_cases hlt : j < n
      · have hlt' : (j : Int) < (n : Int) := by omega
        have hjL : j < L.length := by omega
        have hjl : j < l.length := by omega
        have hxe : L[j] = l[j] := by
          have h1 : (L.drop j)[0]? = (l.drop j)[0]? := by rw [hdr]
          rw [List.getElem?_drop, List.getElem?_drop, Nat.add_zero, List.getElem?_eq_getElem hjL, List.getElem?_eq_getElem hjl] at h1
          exact Option.some.inj h1
        have c0 := hL.cell (List.getElem?_eq_getElem hjL)
        have hnext : without p (l.take (j + 1)) = L.take i ++ if L[j] = p then [] else [L[j]] := by
          unfold without at htk ⊢
          rw [List.take_add_one, List.getElem?_eq_getElem hjl, List.filter_append, ← htk, hxe]
          by_cases hk : l[j] = p <;> simp [hk]
        have hdr1 : L.drop (j + 1) = l.drop (j + 1) := by
          have := congrArg (List.drop 1) hdr
          rwa [List.drop_drop, List.drop_drop] at this
        obtain ⟨yi, hci⟩ : ∃ y, wr.cell? ⟨g, i, none⟩ = some y := ⟨_, hL.cell (i := i) (List.getElem?_eq_getElem (by omega))⟩
        have hfi := FSeg.free hL i
        have i1 : (0 : Int) ≤ (i : Int) := by omega
        have i2 : (i : Int) < (n : Int) := by omega
        have HC1 := HC.out wr hS L[j]
        have HLL := Lib.hid hL
        generalize hLj : L[j] = x at *
        have HN := Lib.hid hnext
        have HDR := Lib.hid hdr1
        by_cases hp : x = p
        · rw [decide_eq_true hp] at HC1
          clear hxe htk hdr hLj hnext hdr1 hL hLn
          have HPP := Lib.hid hp
          clear hp
          go_wp2_with (go_at_call 39; refine HC1.mono ?_; rintro e3 w3 ⟨rfl, rfl⟩)
          exact ⟨⟨i, j + 1, L, by omega, by omega, rfl, by go_num, HLL.out, by rw [HN.out, if_pos HPP.out, List.append_nil], HDR.out, hS⟩, by simp [intOf]; omega⟩
        · rw [decide_eq_false hp] at HC1
          have hLlen := Lib.hid hLn
          clear hxe htk hdr hLj hnext hdr1 hL hLn
          have HPP := Lib.hid hp
          clear hp
          go_wp2_with (go_at_call 39; refine HC1.mono ?_; rintro e3 w3 ⟨rfl, rfl⟩)
          refine ⟨⟨i + 1, j + 1, L.set i x, by omega, by omega, by go_num, by go_num, HLL.out.set i x, ?_, ?_, hS.same ((step_put _ g i _).mono (fun k _ e => by rw [e]; rfl))⟩, by simp [intOf]; omega⟩
          · have := hLlen.out
            rw [HN.out, if_neg HPP.out, List.take_add_one, List.take_set_of_le (Nat.le_refl _), List.getElem?_set_self (by omega)]; rfl
          · rw [List.drop_set_of_lt (by omega)]; exact HDR.out
      · obtain rfl : j = n := by omega
        have hfin : L.take i = without p l := by rw [htk, List.take_of_length_le (by omega)]
        have hfl : (without p l).length = i := by rw [← hfin, List.length_take]; omega
        obtain ⟨wc, hclr, hLc, hsc⟩ := run_clear_tail (P := Try.prog) 40 0 3 _ 1 Try.underlying40 hzv rfl (by decide) (c - i) hL hij
        have hLc' : ISeg wc (some ⟨g, 0, none⟩) i c (without p l) := by
          unfold ISeg
          have e : (ic L).take (i * 1) = ic (without p l) := by rw [← hfin]; unfold ic; rw [Nat.mul_one, List.map_take]
          rw [← e]
          exact hLc
        rw [Nat.mul_one] at hclr
        have hle := FSeg.le hL
        have b1 : (i : Int) ≤ (j : Int) := by omega
        have b2 : (j : Int) ≤ (c : Int) := by omega
        have b3 : (i : Int) ≤ (c : Int) := by omega
        have b4 : ¬ (c = i) := by omega
        have HFL := Lib.hid hfl
        clear htk hdr hfin hL hfl hLn hn hLc
        go_wp2
        go_ret
        exact ⟨by rw [HFL.out]; rfl, by rw [HFL.out]; exact hLc', hS.same (hsc.mono (fun k _ e => by rw [show k = g from e]; rfl))⟩

set_option maxRecDepth 100000 in
set_option maxHeartbeats 1000000 in
theorem clone_calls {w : World} {A : Option Addr} {n c : Nat} {l : List Int} (h : ISeg w A n c l) (hmax : n ≤ 1000000) :
    Calls Try.prog 40 #[.slice A n c] w fun e w' => ∃ A' c', e = .returned (.slice A' n c') ∧ ISeg w' A' n c' l ∧ (∀ k, blockOf A' = some k → w.heap.size ≤ k) ∧ Step (fun _ => False) w w' := by
  obtain ⟨i0, hi0, hp⟩ : ∃ i, Try.prog.info? 3 = some i ∧ (i.zero, i.size, i.bytes) = (some (.int .i64 0), 1, 8) := by
    exact Option.map_eq_some_iff.1 (by kernel_rfl : (Try.prog.info? 3).map (fun i => (i.zero, i.size, i.bytes)) = some (some (.int .i64 0), 1, 8))
  simp only [Prod.mk.injEq] at hp
  obtain ⟨hz0, hs0, hy0⟩ := hp
  have hn := h.len
  obtain ⟨hl, ⟨rfl, rfl, rfl, h0⟩ | ⟨g, cur, rfl, hg, hle, hsz, hcell⟩⟩ := h
  · obtain rfl : l = [] := List.eq_nil_of_length_eq_zero hn
    have hnil := Lib.run_eql_slice_nil (P := Try.prog) w 40 3 none 0 0 0 0 Try.underlying40
    go_enter Try.func40, Try.ntmps40
    go_wp2
    go_ret
    exact ⟨none, 0, rfl, iseg_nil _, fun k hk => (by cases hk), Step.refl _ _⟩
  · have hnil := Lib.run_eql_slice_nil (P := Try.prog) w 40 3 (some ⟨g, 0, none⟩) n c 0 0 Try.underlying40
    have hglt : g < w.heap.size := lt_of_block hg
    go_enter Try.func40, Try.ntmps40
    have hE0 : FSeg (w.alloc (.cells #[] 3)) 3 1 (some ⟨w.heap.size, 0, none⟩) 0 0 [] := ⟨rfl, .inr ⟨w.heap.size, #[], rfl, heap_alloc_new w _, by omega, by simp, fun j v hj => by simp at hj⟩⟩
    go_wp2_with (at_builtin; refine wpList_append_flat _ rfl (.tmp 5) (.tmp 6) 40 rfl 3 i0 _ 1 8 Try.underlying40 hi0 hz0 rfl hs0 hy0 (by omega) rfl hE0 rfl hl (fun e => by cases e) (ic_one l) (fun j v hj => by rw [addr_add', Nat.zero_add]; exact Lib.cell?_alloc_some _ (by simp [World.cell?, hg, hcell j v hj])) (by omega) ?_; intro A2 c2 w2 hE2 hs2 hat2)
    go_ret
    have e1 : (w.alloc (.cells #[] 3)).heap.size = w.heap.size + 1 := by show (w.heap.push _).size = _; simp
    refine ⟨A2, c2, by simp, by simpa [ISeg] using hE2, fun k hk => ?_, ?_⟩
    · rcases hat2 with hat2 | ⟨j, hj, hjl⟩
      · rw [hk] at hat2
        have : k = w.heap.size := Option.some.inj hat2
        omega
      · obtain rfl : j = k := Option.some.inj (hj.symm.trans hk)
        omega
    · exact ((Step.refl (fun _ => False) w).alloc _).trans hs2 (fun j hj e => by have : w.heap.size = j := Option.some.inj e; omega)

/-- Two rows of numbers are compared. -/
theorem numbers_calls {w : World} {A B : Option Addr} {n m c d : Nat} {l r : List Int} (h : ISeg w A n c l) (k : ISeg w B m d r) (hmax : n ≤ 1000000) :
    Calls Try.prog 36 #[.slice A n c, .slice B m d] w fun e w' => e = .returned (.bool (decide (l = r))) ∧ Step (fun _ => False) w w' := by
  have hn := h.len
  have hm := k.len
  by_cases hnm : n = m
  · subst hnm
    obtain ⟨b, hb0⟩ : ∃ b, decide (l = r) = b := ⟨_, rfl⟩
    rw [hb0]
    have hb := Lib.hid hb0
    clear hb0
    go_enter Try.func36, Try.ntmps36
    go_wp2
    go_loopw [5, 13] (fun v5 v13 wr => ∃ (i : Nat), i ≤ n ∧ v13 = .int .i64 (i : Int) ∧ l.take i = r.take i ∧ Step (fun _ => False) w wr) (fun _ v _ => n - (intOf v).toNat)
    case atStart => exact ⟨0, by omega, rfl, by simp, Step.refl _ _⟩
    case round =>
      obtain ⟨i, hi, rfl, htk, hS⟩ := hrel
      by_cases hlt : i < n
      · have hlt' : (i : Int) < (n : Int) := by omega
        have h0 : (0 : Int) ≤ (i : Int) := by omega
        obtain ⟨g, rfl⟩ := h.one hlt
        obtain ⟨g', rfl⟩ := k.one hlt
        have hil : i < l.length := by omega
        have hir : i < r.length := by omega
        have c0 := (h.keep hS (fun _ _ h => h)).cell (List.getElem?_eq_getElem hil)
        have c1 := (k.keep hS (fun _ _ h => h)).cell (List.getElem?_eq_getElem hir)
        by_cases hx : l[i] = r[i]
        · have htk1 : l.take (i + 1) = r.take (i + 1) := by
            rw [List.take_add_one, List.take_add_one, htk, List.getElem?_eq_getElem hil, List.getElem?_eq_getElem hir, hx]
          rw [hx] at c0
          have HT := Lib.hid htk1
          clear hx htk htk1 h k hn hm
          generalize r[i] = x at *
          go_upto_region 6 with (fail)
          go_quiet (fail)
          go_wp2
          exact ⟨⟨i + 1, by omega, by go_num, HT.out, hS.drewN _⟩, by simp [intOf]; omega⟩
        · obtain rfl : b = false := by
            rw [← hb.out, decide_eq_false_iff_not]
            intro e
            subst e
            exact hx rfl
          have q1 : (l[i] != r[i]) = true := by simpa using hx
          have q2 : (l[i] == r[i]) = false := by simpa using hx
          clear hx htk h k hn hm hb
          generalize l[i] = x at *
          generalize r[i] = y at *
          go_upto_region 6 with (fail)
          go_quiet (fail)
          go_wp2
          go_ret
          exact ⟨rfl, hS.drewN _⟩
      · obtain rfl : i = n := by omega
        obtain rfl : b = true := by
          rw [← hb.out, decide_eq_true_iff]
          rw [List.take_of_length_le (by omega), List.take_of_length_le (by omega)] at htk
          exact htk
        clear htk hb
        go_wp2
        go_ret
        exact ⟨rfl, hS⟩
  · have hne : decide (l = r) = false := by
      rw [decide_eq_false_iff_not]
      intro e
      rw [e] at hn
      omega
    rw [hne]
    have q1 : ((n : Int) != (m : Int)) = true := by simp; omega
    have q2 : ((n : Int) == (m : Int)) = false := by simp; omega
    clear hne hn hm
    go_enter Try.func36, Try.ntmps36
    go_wp2
    go_ret
    exact ⟨rfl, Step.refl _ _⟩
end Go.Proofs.Ytgohlbljdffelaa.IntS
