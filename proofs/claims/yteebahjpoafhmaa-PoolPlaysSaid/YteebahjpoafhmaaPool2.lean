/- pool: slices.DeleteFunc of who is gone and has no requests; slices.Clone. Own work of this seat. -/
import Derived.Test.YteebahjpoafhmaaPool1
namespace Go.Proofs.Yteebahjpoafhmaa.Pool
open Go.RowKit Go.Proofs.Yteebahjpoafhmaa.Kit Go.Proofs.Yteebahjpoafhmaa.PPoolPlays Go.Proofs.YteebahjpoafhmaaW.PrintWords Go.Proofs.YteebahjpoafhmaaW.PrintLast Go.Proofs.YteebahjpoafhmaaW.PrintMore
set_option linter.unusedVariables false
set_option linter.unusedSimpArgs false

theorem ix_cases (P : S38 → Bool) (l : List S38) : (ixv P l = -1 ∧ ∀ x ∈ l, P x = false) ∨ ∃ i, ∃ hi : i < l.length, ixv P l = (i : Int) ∧ P l[i] = true ∧ ∀ j (hj : j < i), P (l[j]'(by omega)) = false := by
  by_cases h : ixf P l < l.length
  · right
    refine ⟨ixf P l, h, by unfold ixv; rw [if_pos h], List.findIdx_getElem (w := h), fun j hj => ?_⟩
    have := List.not_of_lt_findIdx (p := P) (xs := l) hj
    simpa using this
  · left
    refine ⟨by unfold ixv; rw [if_neg h], fun x hx => ?_⟩
    have := List.findIdx_eq_length.1 (Nat.le_antisymm List.findIdx_le_length (Nat.not_lt.1 h))
    exact this x hx

theorem bcells_drop (l : List S38) : ∀ m, (bcells l).drop (m * 5) = bcells (l.drop m) := by
  induction l with
  | nil => intro m; simp [bcells]
  | cons x r ih =>
    intro m
    cases m with
    | zero => simp [bcells]
    | succ m =>
      have e1 : (m + 1) * 5 = (bc x).length + m * 5 := by simp [bc]; omega
      simp only [bcells, List.flatMap_cons, List.drop_succ_cons] at ih ⊢
      rw [e1, List.drop_append, List.drop_of_length_le (by omega), Nat.add_sub_cancel_left, ih m, List.nil_append]
theorem bcells_store (l : List S38) (m : Nat) (x : S38) (hm : m < l.length) : (bcells l).take (m * 5) ++ bc x ++ (bcells l).drop (m * 5 + 5) = bcells (l.set m x) := by
  rw [show m * 5 + 5 = (m + 1) * 5 by omega, bcells_take, bcells_drop, List.set_eq_take_append_cons_drop, if_pos hm, bcells_append]
  simp [bcells]

def gone (x : S38) : Bool := decide (x.f3 = 2) && decide (x.f4 = 0)
def keepB (x : S38) : Bool := !gone x
def swept (l : List S38) : List S38 := l.filter keepB

theorem swept_none {l : List S38} (h : ∀ x ∈ l, gone x = false) : swept l = l := by
  unfold swept keepB
  rw [List.filter_eq_self]
  intro x hx
  rw [h x hx]; rfl

set_option maxRecDepth 100000 in
set_option maxHeartbeats 1000000 in
theorem delete_calls {w : World} {A : Option Addr} {n c : Nat} {l : List S38} (h : BSeg w A n c l) (hmax : n ≤ 1000000) :
    Calls Try.prog 43 #[.slice A n c, .func (.func 44) #[] #[]] w fun e w' => ∃ n', e = .returned (.slice A n' c) ∧ BSeg w' A n' c (swept l) ∧ Step (fun k => blockOf A = some k) w w' := by
  have hn := h.len
  have HI := index_sweep_calls h hmax
  obtain ⟨i0, hi0, hp⟩ : ∃ i, Try.prog.info? 38 = some i ∧ (i.zero, i.size, i.bytes) = (some (.agg #[.string ⟨#[]⟩, .int .i64 0, .int .i64 0, .int .i64 0, .int .i64 0]), 5, 48) := by
    exact Option.map_eq_some_iff.1 (by kernel_rfl : (Try.prog.info? 38).map (fun i => (i.zero, i.size, i.bytes)) = some (some (.agg #[.string ⟨#[]⟩, .int .i64 0, .int .i64 0, .int .i64 0, .int .i64 0]), 5, 48))
  simp only [Prod.mk.injEq] at hp
  obtain ⟨hz0, hs0, hy0⟩ := hp
  have hzv : ∀ w, (zeroValue 38).run Try.prog w = .ok (.agg #[.string ⟨#[]⟩, .int .i64 0, .int .i64 0, .int .i64 0, .int .i64 0]) w := fun w => by simp [zeroValue, typeInfo, hi0, hz0]
  rcases ix_cases (fun x : S38 => decide (x.f3 = 2) && decide (x.f4 = 0)) l with ⟨hx, hno⟩ | ⟨i, hi, hx, hyes, hbef⟩
  · rw [hx] at HI
    have hsw := swept_none (l := l) hno
    clear hno hx
    go_enter Try.func43, Try.ntmps43
    go_wp2_with (go_at_call 40; refine HI.mono ?_; rintro e1 w1 ⟨rfl, hs1⟩)
    go_ret
    exact ⟨n, rfl, by rw [hsw]; exact h.keep hs1 (fun _ _ h => h), hs1.mono (fun _ _ h => h.elim)⟩
  · rw [hx] at HI
    clear hx
    have hin : i < n := by omega
    have hst0 : (l.take (i + 1)).filter keepB = l.take i := by
      rw [List.take_add_one, List.getElem?_eq_getElem hi, List.filter_append]
      have e1 : (l.take i).filter keepB = l.take i := by
        rw [List.filter_eq_self]
        intro x hx
        obtain ⟨j, hj, rfl⟩ := List.mem_iff_getElem.1 hx
        rw [List.length_take] at hj
        rw [List.getElem_take]
        have := hbef j (by omega)
        show (!gone _) = true
        rw [show gone _ = false from this]; rfl
      have e2 : ([l[i]] : List S38).filter keepB = [] := by
        have : keepB l[i] = false := by
          show (!gone _) = false
          rw [show gone _ = true from hyes]; rfl
        simp [this]
      rw [e1]
      show l.take i ++ [l[i]].filter keepB = l.take i
      rw [e2, List.append_nil]
    clear hbef hyes
    have hm1 : ((i : Int) == -1) = false := by simp
    go_enter Try.func43, Try.ntmps43
    go_wp2_with (go_at_call 40; refine HI.mono ?_; rintro e1 w1 ⟨rfl, hs1⟩)
    have h1 := h.keep hs1 (fun _ _ h => h)
    obtain ⟨g, rfl⟩ := h1.one hin
    clear HI h
    go_loopw [5, 6] (fun v5 v6 wr => ∃ (i j : Nat) (L : List S38), i < j ∧ j ≤ n ∧ v5 = .int .i64 (i : Int) ∧ v6 = .int .i64 (j : Int) ∧ BSeg wr (some ⟨g, 0, none⟩) n c L ∧ L.take i = (l.take j).filter keepB ∧ L.drop j = l.drop j ∧ Step (· = g) w1 wr) (fun _ v _ => n - (intOf v).toNat)
    case atStart => exact ⟨i, i + 1, l, by omega, by omega, by go_num, by go_num, h1, hst0.symm, rfl, Step.refl _ _⟩
    case round =>
      obtain ⟨i, j, L, hij, hj, rfl, rfl, hL, htk, hdr, hS⟩ := hrel
      have hLn := hL.len
      by_cases hlt : j < n
      · have hlt' : (j : Int) < (n : Int) := by omega
        have hjL : j < L.length := by omega
        have hjl : j < l.length := by omega
        have hxe : L[j] = l[j] := by
          have h1 : (L.drop j)[0]? = (l.drop j)[0]? := by rw [hdr]
          rw [List.getElem?_drop, List.getElem?_drop, Nat.add_zero, List.getElem?_eq_getElem hjL, List.getElem?_eq_getElem hjl] at h1
          exact Option.some.inj h1
        obtain ⟨c0, c1, c2, c3, c4⟩ := hL.cells (List.getElem?_eq_getElem hjL)
        have hnext : (l.take (j + 1)).filter keepB = L.take i ++ if keepB L[j] then [L[j]] else [] := by
          rw [List.take_add_one, List.getElem?_eq_getElem hjl, List.filter_append, ← htk, hxe]
          cases hk : keepB l[j] <;> simp [hk]
        have hdr1 : L.drop (j + 1) = l.drop (j + 1) := by
          have := congrArg (List.drop 1) hdr
          rwa [List.drop_drop, List.drop_drop] at this
        generalize hLj : L[j] = x at *
        obtain ⟨b, hb⟩ : ∃ b, gone x = b := ⟨_, rfl⟩
        have HSW : ∀ w', Calls Try.prog 44 #[.agg #[.string x.f0, .int .i64 x.f1, .int .i64 x.f2, .int .i64 x.f3, .int .i64 x.f4]] w' fun e w'' => e = .returned (.bool b) ∧ Step (fun _ => False) w' w'' := fun w' => by
          rw [← hb]; exact sweep1_calls x
        have hkb : keepB x = !b := by unfold keepB; rw [hb]
        rw [hkb] at hnext
        have hLjx := hLj
        obtain ⟨x0, x1, x2, x3, x4⟩ := x
        clear hxe hkb hb htk hdr hLj
        go_upto_region 8 with (fail)
        refine alloc_next (cs := [.string x0, .int .i64 x1, .int .i64 x2, .int .i64 x3, .int .i64 x4]) ?_
        intro w2 hE hs2
        have HSW2 := HSW w2
        clear HSW
        generalize wr.heap.size = eb at *
        have e0 := hE.cell (i := 0) rfl
        have e1 := hE.cell (i := 1) rfl
        have e2 := hE.cell (i := 2) rfl
        have e3 := hE.cell (i := 3) rfl
        have e4 := hE.cell (i := 4) rfl
        cases b with
        | true =>
          go_wp2_with (go_at_call 44; refine HSW2.mono ?_; rintro e3 w3 ⟨rfl, hs3⟩)
          exact ⟨⟨i, j + 1, L, by omega, by omega, rfl, by go_num, hL.keep (hs2.same hs3) (fun _ _ h => h), by rw [hnext]; simp, hdr1, hS.trans (hs2.same hs3) (fun _ _ h => h.elim)⟩, by simp [intOf]; omega⟩
        | false =>
          go_upto_region 9 with (go_at_call 44; refine HSW2.mono ?_; rintro e3 w3 ⟨rfl, hs3⟩)
          have hE3 := hE.keep hs3 (fun h => h)
          have d0 := hE3.cell (i := 0) rfl
          have d1 := hE3.cell (i := 1) rfl
          have d2 := hE3.cell (i := 2) rfl
          have d3 := hE3.cell (i := 3) rfl
          have d4 := hE3.cell (i := 4) rfl
          have hL3 := hL.keep (hs2.same hs3) (fun _ _ h => h)
          clear e0 e1 e2 e3 e4 HSW2
          have hin' : i < n := by omega
          go_wp2_with (refine wpList_store_flat (k := 5) rfl 38 (.tmp 33) (.tmp 32) rfl (vs := bc ⟨x0, x1, x2, x3, x4⟩) rfl (by kernel_rfl) (fun v hv => bcells_one [⟨x0, x1, x2, x3, x4⟩] v (by simpa [bcells] using hv)) hL3 hin' rfl rfl ?_; intro w4 hL4 hs4)
          rw [bcells_store L i _ (by omega)] at hL4
          refine ⟨⟨i + 1, j + 1, L.set i ⟨x0, x1, x2, x3, x4⟩, by omega, by omega, by go_num, by go_num, hL4, ?_, ?_, (hS.trans (hs2.same hs3) (fun _ _ h => h.elim)).same hs4⟩, by simp [intOf]; omega⟩
          · rw [hnext, List.take_add_one, List.take_set_of_le (Nat.le_refl _), List.getElem?_set_self (by omega)]; rfl
          · rw [List.drop_set_of_lt (by omega)]; exact hdr1
      · obtain rfl : j = n := by omega
        have hfin : L.take i = swept l := by rw [htk, List.take_of_length_le (by omega)]; rfl
        have hLi : BSeg wr (some ⟨g, 0, none⟩) j c L := hL
        obtain ⟨wc, hclr, hLc, hsc⟩ := run_clear_tail (P := Try.prog) 35 0 38 _ 5 Try.underlying35 hzv rfl (by decide) (c - i) hL hij
        rw [bcells_take, hfin] at hLc
        have hle := FSeg.le hL
        have b1 : (i : Int) ≤ (j : Int) := by omega
        have b2 : (j : Int) ≤ (c : Int) := by omega
        have b3 : (i : Int) ≤ (c : Int) := by omega
        have b4 : ¬ (c = i) := by omega
        clear htk hdr hfin hL hLi
        go_wp2
        go_ret
        exact ⟨i, rfl, hLc, ((hs1.mono (fun _ _ h => h.elim)).same ((hS.same hsc).mono (fun k _ e => by rw [show k = g from e]; rfl)))⟩

set_option maxRecDepth 100000 in
set_option maxHeartbeats 1000000 in
theorem clone_calls {w : World} {A : Option Addr} {n c : Nat} {l : List S38} (h : BSeg w A n c l) (hmax : n ≤ 1000000) :
    Calls Try.prog 30 #[.slice A n c] w fun e w' => ∃ A' c', e = .returned (.slice A' n c') ∧ BSeg w' A' n c' l ∧ (∀ k, blockOf A' = some k → w.heap.size ≤ k) ∧ Below w.heap.size w w' := by
  obtain ⟨i0, hi0, hp⟩ : ∃ i, Try.prog.info? 38 = some i ∧ (i.zero, i.size, i.bytes) = (some (.agg #[.string ⟨#[]⟩, .int .i64 0, .int .i64 0, .int .i64 0, .int .i64 0]), 5, 48) := by
    exact Option.map_eq_some_iff.1 (by kernel_rfl : (Try.prog.info? 38).map (fun i => (i.zero, i.size, i.bytes)) = some (some (.agg #[.string ⟨#[]⟩, .int .i64 0, .int .i64 0, .int .i64 0, .int .i64 0]), 5, 48))
  simp only [Prod.mk.injEq] at hp
  obtain ⟨hz0, hs0, hy0⟩ := hp
  have hn := h.len
  obtain ⟨hl, ⟨rfl, rfl, rfl, h0⟩ | ⟨g, cur, rfl, hg, hle, hsz, hcell⟩⟩ := h
  · obtain rfl : l = [] := List.eq_nil_of_length_eq_zero hn
    have hnil := Lib.run_eql_slice_nil (P := Try.prog) w 35 38 none 0 0 0 0 Try.underlying35
    go_enter Try.func30, Try.ntmps30
    go_wp2
    go_ret
    exact ⟨none, 0, rfl, fseg_nil _ _ _, fun k hk => (by cases hk), Below.refl _ _⟩
  · have hnil := Lib.run_eql_slice_nil (P := Try.prog) w 35 38 (some ⟨g, 0, none⟩) n c 0 0 Try.underlying35
    have hglt : g < w.heap.size := lt_of_block hg
    go_enter Try.func30, Try.ntmps30
    have hE0 : FSeg (w.alloc (.cells #[] 38)) 38 5 (some ⟨w.heap.size, 0, none⟩) 0 0 [] := ⟨rfl, .inr ⟨w.heap.size, #[], rfl, heap_alloc_new w _, by omega, by simp, fun j v hj => by simp at hj⟩⟩
    go_wp2_with (at_builtin; refine wpList_append_flat _ rfl (.tmp 5) (.tmp 6) 35 rfl 38 i0 _ 5 48 Try.underlying35 hi0 hz0 rfl hs0 hy0 (by omega) rfl hE0 rfl hl (fun e => by cases e) (bcells_one l) (fun j v hj => by rw [addr_add', Nat.zero_add]; exact Lib.cell?_alloc_some _ (by simp [World.cell?, hg, hcell j v hj])) (by omega) ?_; intro A2 c2 w2 hE2 hs2 hat2)
    go_ret
    have e1 : (w.alloc (.cells #[] 38)).heap.size = w.heap.size + 1 := by show (w.heap.push _).size = _; simp
    refine ⟨A2, c2, by simp, by simpa [BSeg] using hE2, fun k hk => ?_, ?_⟩
    · rcases hat2 with hat2 | ⟨j, hj, hjl⟩
      · rw [hk] at hat2
        have : k = w.heap.size := Option.some.inj hat2
        omega
      · obtain rfl : j = k := Option.some.inj (hj.symm.trans hk)
        omega
    · exact (((Step.alloc (Step.refl (fun k => w.heap.size ≤ k) w) _).same (hs2.mono (G := fun k => w.heap.size ≤ k) (fun j _ e => by have : w.heap.size = j := Option.some.inj e; omega)))).below (Nat.le_refl _) (fun k h => h)
end Go.Proofs.Yteebahjpoafhmaa.Pool
