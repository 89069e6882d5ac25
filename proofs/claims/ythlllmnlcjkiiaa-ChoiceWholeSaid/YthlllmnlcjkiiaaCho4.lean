/- choice: load, scores, Least. Own work of this seat; printed by gen_cho4.py; no condition. -/
import Derived.Test.YthlllmnlcjkiiaaCho3
namespace Go.Proofs.Ythlllmnlcjkiiaa.Cho
open Go.RowKit Go.Proofs.Ythlllmnlcjkiiaa.Kit Go.Proofs.Ythlllmnlcjkiiaa.Flo
set_option linter.unusedVariables false
set_option linter.unusedSimpArgs false

attribute [local go_sem] store_flt
/-- A candidate. -/
structure Cand where
  nm : ByteArray
  wt : Int
  bz : Int
  tm : Nat
def cnc (x : Cand) : List Value := [.string x.nm, .int .i64 x.wt, .int .i64 x.bz, .float .f64 x.tm]
def cncs (l : List Cand) : List Value := l.flatMap cnc
def encC (x : Cand) : Value := .agg #[.string x.nm, .int .i64 x.wt, .int .i64 x.bz, .float .f64 x.tm]
theorem cncs_append (l r : List Cand) : cncs (l ++ r) = cncs l ++ cncs r := by simp [cncs]
theorem cncs_length (l : List Cand) : (cncs l).length = l.length * 4 := by
  induction l with
  | nil => rfl
  | cons x r ih => simp only [cncs, cnc, List.flatMap_cons, List.length_append, List.length_cons, List.length_nil] at ih ⊢; omega
theorem cncs_at {l : List Cand} {j : Nat} {e : Cand} (h : l[j]? = some e) : (cncs l)[j * 4]? = some (.string e.nm) ∧ (cncs l)[j * 4 + 1]? = some (.int .i64 e.wt) ∧ (cncs l)[j * 4 + 2]? = some (.int .i64 e.bz) ∧ (cncs l)[j * 4 + 3]? = some (.float .f64 e.tm) := by
  have hl := (List.getElem?_eq_some_iff.1 h).1
  have e1 : cncs l = cncs (l.take j) ++ (cnc e ++ cncs (l.drop (j + 1))) := by
    have h2 : l[j] = e := (List.getElem?_eq_some_iff.1 h).2
    have h3 : l = l.take j ++ (e :: l.drop (j + 1)) := by rw [← h2, ← List.drop_eq_getElem_cons hl, List.take_append_drop]
    have h4 := congrArg cncs h3
    rw [cncs_append] at h4
    exact h4
  have e2 : (cncs (l.take j)).length = j * 4 := by rw [cncs_length, List.length_take, Nat.min_eq_left (Nat.le_of_lt hl)]
  rw [e1]
  refine ⟨?_, ?_, ?_, ?_⟩
  · rw [List.getElem?_append_right (by omega), e2, Nat.sub_self]; rfl
  · rw [List.getElem?_append_right (by omega), e2, Nat.add_sub_cancel_left]; rfl
  · rw [List.getElem?_append_right (by omega), e2, Nat.add_sub_cancel_left]; rfl
  · rw [List.getElem?_append_right (by omega), e2, Nat.add_sub_cancel_left]; rfl
/-- A row of candidates. -/
def CSeg (w : World) (A : Option Addr) (n c : Nat) (l : List Cand) : Prop := FSeg w 29 4 A n c (cncs l)
theorem CSeg.len {w : World} {A : Option Addr} {n c : Nat} {l : List Cand} (h : CSeg w A n c l) : l.length = n := by have := h.1; rw [cncs_length] at this; omega

theorem i0flt : ∃ i, Try.prog.info? 27 = some i ∧ i.zero = some (.float .f64 0) ∧ i.size = 1 ∧ i.bytes = 8 := by
  obtain ⟨i, hi, hp⟩ := Option.map_eq_some_iff.1 (by kernel_rfl : (Try.prog.info? 27).map (fun i => (i.zero, i.size, i.bytes)) = some (some (.float .f64 0), 1, 8))
  simp only [Prod.mk.injEq] at hp
  exact ⟨i, hi, hp⟩
theorem run_app_flt {w : World} {A : Option Addr} {n c b : Nat} {l : List Value} {r : Nat} (h : FSeg w 27 1 A n c l) (k : Blk w b 27 [.float .f64 r]) (hb : n + 1 ≤ 1000000) :
    ∃ A' c' w', (Builtin.append_ #[36, 36] 36 #[.slice A n c, .slice (some ⟨b, 0, none⟩) 1 1]).run Try.prog w = .ok (.slice A' (n + 1) c') w' ∧ FSeg w' 27 1 A' (n + 1) c' (l ++ [.float .f64 r]) ∧ Step (fun k => blockOf A = some k) w w' ∧ (blockOf A' = blockOf A ∨ ∃ k, blockOf A' = some k ∧ w.heap.size ≤ k) := by
  obtain ⟨i0, hi0, hz0, hs0, hy0⟩ := i0flt
  exact run_append_flat (P := Try.prog) (cB := 1) w 36 36 27 i0 _ 1 8 Try.underlying36 hi0 hz0 rfl hs0 hy0 (by omega) h (m := 1) (r := [.float .f64 r]) (aB := ⟨b, 0, none⟩) rfl (fun _ => Nat.one_pos) (fun v hv => by rw [List.mem_singleton.1 hv]; rfl) (fun j v hj => by rw [addr_add', Nat.zero_add]; exact k.cell hj) hb
/-- make([]float64, 0, m). -/
theorem make_flts (w : World) (m : Nat) (hm : m ≤ 1000000) : ∃ w', (Instr.makeSlice 36 (.int .i64 0) (.int .i64 (m : Int))).run Try.prog w = .ok (.slice (some ⟨w.heap.size, 0, none⟩) 0 m) w' ∧ FSeg w' 27 1 (some ⟨w.heap.size, 0, none⟩) 0 m [] ∧ Step (fun _ => False) w w' := by
  obtain ⟨i, hi, hz, hs, hb⟩ := i0flt
  have hr := run_make (P := Try.prog) w 36 27 i (.float .f64 0) Try.underlying36 hi hz .i64 .i64 0 (m : Int) (by omega) (by omega) (by rw [hb]; omega) (by omega)
  simp only [Int.toNat_natCast, Int.toNat_zero, hs, Nat.mul_one] at hr
  exact ⟨_, hr, ⟨rfl, .inr ⟨w.heap.size, _, rfl, heap_alloc_new w _, Nat.zero_le _, by rw [size_madeCells]; omega, fun j v hj => by simp at hj⟩⟩, (Step.refl _ _).alloc _⟩

set_option maxHeartbeats 1000000 in
/-- A load where the time is zero. -/
theorem load_zero {b k : Nat} (hb : b ≤ 65535) (h1 : 1 ≤ k) (hk : k ≤ 32768) (hm0 : Ieee.double.mul (wordN (b + 1)) 0 = some 0) (hq0 : Ieee.double.div 0 (wordN k) = some 0) (nm : ByteArray) (w : World) : Calls Try.prog 11 #[.agg #[.string nm, .int .i64 (k : Int), .int .i64 (b : Int), .float .f64 0]] w fun e w' => e = .returned (.float .f64 0) ∧ Step (fun _ => False) w w' := by
  have HL : ∀ w, Calls Try.prog 15 #[.int .i64 (b : Int), .int .i64 (k : Int), .float .f64 0] w fun e w' => e = .returned (.float .f64 0) ∧ w = w' := by
    intro w
    have hc1 : floatOfInt .f64 ((b : Int) + 1) = wordN (b + 1) := ofInt_pos (n := b + 1) (by omega) (log2_small (by omega))
    have hc2 : floatOfInt .f64 (k : Int) = wordN k := ofInt_pos (n := k) (by omega) (log2_small (by omega))
    have hm := fun w => run_float_arith (P := Try.prog) w .mul 27 .f64 (wordN (b + 1)) 0 _ hm0
    have hq := fun w => run_float_arith (P := Try.prog) w .quo 27 .f64 0 (wordN k) _ hq0
    have HC := cmp_calls 0 0
    rw [show cmpF 0 0 = 0 by decide] at HC
    have HP := plain_calls 0
    rw [show plainF 0 = 0 by decide] at HP
    have hk1 : ¬ ((k : Int) < 1) := by omega
    have hmax : (if 0 < b then (b : Int) else 0) = (b : Int) := by split <;> omega
    have hmax2 : (if (0 : Int) < (b : Int) then (b : Int) else 0) = (b : Int) := by split <;> omega
    go_enter Try.func15, Try.ntmps15
    go_wp2_with (first | (go_at_call 14; refine (HC _).mono ?_; rintro e w1 ⟨rfl, rfl⟩) | (go_at_call 19; refine (HP _).mono ?_; rintro e w1 ⟨rfl, rfl⟩))
    go_ret
    exact ⟨rfl, rfl⟩
  go_enter Try.func11, Try.ntmps11
  go_upto_region 1 with (fail)
  refine alloc_next (cs := [.string nm, .int .i64 (k : Int), .int .i64 (b : Int), .float .f64 0]) ?_
  intro w1 hX hs1
  have x1 := hX.cell (i := 1) rfl
  have x2 := hX.cell (i := 2) rfl
  have x3 := hX.cell (i := 3) rfl
  go_wp2_with (go_at_call 15; refine (HL _).mono ?_; rintro e w2 ⟨rfl, rfl⟩)
  go_ret
  exact ⟨rfl, hs1⟩

set_option maxRecDepth 100000 in
set_option maxHeartbeats 2000000 in
theorem scoresE_calls {w : World} {A : Option Addr} {n c : Nat} {l : List Cand} (h : CSeg w A n c l) (hmax : n ≤ 1000) {f : Cand → Nat} (HG0 : ∀ x ∈ l, ∀ w', Calls Try.prog 10 #[encC x] w' fun e w'' => e = .returned (.float .f64 (f x)) ∧ Step (fun _ => False) w' w'') :
    Calls Try.prog 9 #[.slice A n c, .func (.func 10) #[] #[]] w fun e w' => ∃ B cB, e = .returned (.slice B n cB) ∧ FSeg w' 27 1 B n cB (flts (l.map f)) ∧ (∀ k, blockOf B = some k → w.heap.size ≤ k) ∧ Step (fun _ => False) w w' := by
  have hn := h.len
  have HH := Lib.hid h
  have HG := Lib.hid HG0
  have HN := Lib.hid hn
  clear h HG0 hn
  obtain ⟨w1, hmk, hB1, hs1⟩ := make_flts w n (by omega)
  go_enter Try.func9, Try.ntmps9
  go_upto_region 2 with (fail)
  generalize hwb : w.heap.size = wb at *
  have HWB := Lib.hid hwb
  have HS1 := Lib.hid hs1
  have HB1 := Lib.hid hB1
  clear hwb hs1 hB1 hmk
  go_wp2
  go_loopw [5, 13] (fun v5 v13 wr => ∃ (i : Nat) (B : Option Addr) (cB : Nat), v13 = .int .i64 (i : Int) ∧ v5 = .slice B i cB ∧ i ≤ n ∧ FSeg wr 27 1 B i cB (flts ((l.take i).map f)) ∧ (∀ k, blockOf B = some k → wb ≤ k) ∧ Step (fun _ => False) w wr) (fun _ v _ => n - (intOf v).toNat)
  case atStart => exact ⟨0, some ⟨wb, 0, none⟩, n, rfl, rfl, Nat.zero_le _, HB1.out, fun k hk => by obtain rfl : wb = k := Option.some.inj hk; exact Nat.le_refl _, HS1.out⟩
  case round =>
    clear HS1 HB1
    obtain ⟨i, B, cB, rfl, rfl, hi, hB, hBf, hst⟩ := hrel
    by_cases hin : i < n
    · have hin' : ((i : Int) < (n : Int)) := by omega
      obtain ⟨gA, rfl⟩ := FSeg.isSome HH.out (by omega)
      obtain ⟨x, hx⟩ : ∃ x, l[i]? = some x := ⟨_, List.getElem?_eq_getElem (by have := HN.out; omega)⟩
      have hS := HH.out.keep hst (fun _ _ h => h)
      obtain ⟨e0, e1, e2, e3⟩ := cncs_at hx
      have c0 := hS.cell e0
      have c1 := hS.cell e1
      have c2 := hS.cell e2
      have c3 := hS.cell e3
      have HGX := Lib.hid (HG.out x (List.mem_of_getElem? hx))
      have HTK := Lib.hid (show flts ((l.take (i + 1)).map f) = flts ((l.take i).map f) ++ [.float .f64 (f x)] by rw [List.take_add_one, hx]; simp [flts])
      clear hS e0 e1 e2 e3 hx
      obtain ⟨xn, xw, xb, xt⟩ := x
      simp only at c0 c1 c2 c3
      simp only [encC] at HGX
      have HB := Lib.hid hB
      have HST := Lib.hid hst
      have HBF := Lib.hid hBf
      clear hB hst hBf
      go_upto_region 5 with (fail)
      refine alloc_next (cs := [.string xn, .int .i64 xw, .int .i64 xb, .float .f64 xt]) ?_
      intro w2 hV hs2
      have v0 := hV.cell (i := 0) rfl
      have v1 := hV.cell (i := 1) rfl
      have v2 := hV.cell (i := 2) rfl
      have v3 := hV.cell (i := 3) rfl
      generalize wr.heap.size = vb at *
      generalize f ⟨xn, xw, xb, xt⟩ = r at *
      have HAP := Lib.hid (fun (w3 : World) (hs3 : Step (fun _ => False) w2 w3) => run_app_flt (((HB.out.keep hs2 (fun _ _ h => h)).keep hs3 (fun _ _ h => h)).keep ((Step.refl (fun _ => False) w3).alloc (.cells #[.float .f64 r] 27)) (fun _ _ h => h)) (blk_new w3 [.float .f64 r] 27) (by omega))
      have HS2 := Lib.hid hs2
      clear hs2 hV
      go_wp2_with (first | (go_at_call 10; refine (HGX.out _).mono ?_; rintro e w3 ⟨rfl, hs3⟩; obtain ⟨B5, c5, w5, hap, hB5, hs5, hn5⟩ := HAP.out w3 hs3) | (at_builtin; refine wpList_app (by rfl) (.tmp 17) (.tmp 21) 36 (by rfl) (by rfl) (by rfl) hap ?_))
      have hs23 : Step (fun _ => False) wr w3 := HS2.out.same hs3
      have hal : Step (fun _ => False) w3 (w3.alloc (.cells #[.float .f64 r] 27)) := (Step.refl _ _).alloc _
      have hst5 : Step (fun _ => False) w w5 := ((HST.out.same hs23).same hal).trans hs5 (fun j hj h => by have := HBF.out j h; have := HWB.out; omega)
      have hz := (HST.out.same hs23).size
      have hz1 := hal.size
      rw [← HTK.out] at hB5
      have hB5f : ∀ k, blockOf B5 = some k → wb ≤ k := fun k hk => by
        rcases hn5 with e | ⟨j, e, hj⟩
        · exact HBF.out k (e ▸ hk)
        · rw [hk] at e
          obtain rfl := Option.some.inj e
          have := HWB.out
          omega
      have HB5 := Lib.hid hB5
      have HST5 := Lib.hid hst5
      clear hB5 hst5 hs5 hn5 hal hs23 hs3 HB HST HTK HGX HAP hap
      go_wp2
      go_roundw
      case rel => exact ⟨i + 1, B5, c5, by go_num, rfl, by omega, HB5.out, hB5f, HST5.out⟩
      case measure =>
        simp only [intOf]
        omega
    · have hin' : ¬ ((i : Int) < (n : Int)) := by omega
      obtain rfl : i = n := by omega
      go_wp2
      go_ret
      rw [List.take_of_length_le (by rw [HN.out]; exact Nat.le_refl _)] at hB
      exact ⟨B, cB, rfl, hB, by rw [HWB.out]; exact hBf, hst⟩

set_option maxRecDepth 100000 in
set_option maxHeartbeats 2000000 in
theorem scoresL_calls {w : World} {A : Option Addr} {n c : Nat} {l : List Cand} (h : CSeg w A n c l) (hmax : n ≤ 1000) {f : Cand → Nat} (HG0 : ∀ x ∈ l, ∀ w', Calls Try.prog 11 #[encC x] w' fun e w'' => e = .returned (.float .f64 (f x)) ∧ Step (fun _ => False) w' w'') :
    Calls Try.prog 9 #[.slice A n c, .func (.func 11) #[] #[]] w fun e w' => ∃ B cB, e = .returned (.slice B n cB) ∧ FSeg w' 27 1 B n cB (flts (l.map f)) ∧ (∀ k, blockOf B = some k → w.heap.size ≤ k) ∧ Step (fun _ => False) w w' := by
  have hn := h.len
  have HH := Lib.hid h
  have HG := Lib.hid HG0
  have HN := Lib.hid hn
  clear h HG0 hn
  obtain ⟨w1, hmk, hB1, hs1⟩ := make_flts w n (by omega)
  go_enter Try.func9, Try.ntmps9
  go_upto_region 2 with (fail)
  generalize hwb : w.heap.size = wb at *
  have HWB := Lib.hid hwb
  have HS1 := Lib.hid hs1
  have HB1 := Lib.hid hB1
  clear hwb hs1 hB1 hmk
  go_wp2
  go_loopw [5, 13] (fun v5 v13 wr => ∃ (i : Nat) (B : Option Addr) (cB : Nat), v13 = .int .i64 (i : Int) ∧ v5 = .slice B i cB ∧ i ≤ n ∧ FSeg wr 27 1 B i cB (flts ((l.take i).map f)) ∧ (∀ k, blockOf B = some k → wb ≤ k) ∧ Step (fun _ => False) w wr) (fun _ v _ => n - (intOf v).toNat)
  case atStart => exact ⟨0, some ⟨wb, 0, none⟩, n, rfl, rfl, Nat.zero_le _, HB1.out, fun k hk => by obtain rfl : wb = k := Option.some.inj hk; exact Nat.le_refl _, HS1.out⟩
  case round =>
    clear HS1 HB1
    obtain ⟨i, B, cB, rfl, rfl, hi, hB, hBf, hst⟩ := hrel
    by_cases hin : i < n
    · have hin' : ((i : Int) < (n : Int)) := by omega
      obtain ⟨gA, rfl⟩ := FSeg.isSome HH.out (by omega)
      obtain ⟨x, hx⟩ : ∃ x, l[i]? = some x := ⟨_, List.getElem?_eq_getElem (by have := HN.out; omega)⟩
      have hS := HH.out.keep hst (fun _ _ h => h)
      obtain ⟨e0, e1, e2, e3⟩ := cncs_at hx
      have c0 := hS.cell e0
      have c1 := hS.cell e1
      have c2 := hS.cell e2
      have c3 := hS.cell e3
      have HGX := Lib.hid (HG.out x (List.mem_of_getElem? hx))
      have HTK := Lib.hid (show flts ((l.take (i + 1)).map f) = flts ((l.take i).map f) ++ [.float .f64 (f x)] by rw [List.take_add_one, hx]; simp [flts])
      clear hS e0 e1 e2 e3 hx
      obtain ⟨xn, xw, xb, xt⟩ := x
      simp only at c0 c1 c2 c3
      simp only [encC] at HGX
      have HB := Lib.hid hB
      have HST := Lib.hid hst
      have HBF := Lib.hid hBf
      clear hB hst hBf
      go_upto_region 5 with (fail)
      refine alloc_next (cs := [.string xn, .int .i64 xw, .int .i64 xb, .float .f64 xt]) ?_
      intro w2 hV hs2
      have v0 := hV.cell (i := 0) rfl
      have v1 := hV.cell (i := 1) rfl
      have v2 := hV.cell (i := 2) rfl
      have v3 := hV.cell (i := 3) rfl
      generalize wr.heap.size = vb at *
      generalize f ⟨xn, xw, xb, xt⟩ = r at *
      have HAP := Lib.hid (fun (w3 : World) (hs3 : Step (fun _ => False) w2 w3) => run_app_flt (((HB.out.keep hs2 (fun _ _ h => h)).keep hs3 (fun _ _ h => h)).keep ((Step.refl (fun _ => False) w3).alloc (.cells #[.float .f64 r] 27)) (fun _ _ h => h)) (blk_new w3 [.float .f64 r] 27) (by omega))
      have HS2 := Lib.hid hs2
      clear hs2 hV
      go_wp2_with (first | (go_at_call 11; refine (HGX.out _).mono ?_; rintro e w3 ⟨rfl, hs3⟩; obtain ⟨B5, c5, w5, hap, hB5, hs5, hn5⟩ := HAP.out w3 hs3) | (at_builtin; refine wpList_app (by rfl) (.tmp 17) (.tmp 21) 36 (by rfl) (by rfl) (by rfl) hap ?_))
      have hs23 : Step (fun _ => False) wr w3 := HS2.out.same hs3
      have hal : Step (fun _ => False) w3 (w3.alloc (.cells #[.float .f64 r] 27)) := (Step.refl _ _).alloc _
      have hst5 : Step (fun _ => False) w w5 := ((HST.out.same hs23).same hal).trans hs5 (fun j hj h => by have := HBF.out j h; have := HWB.out; omega)
      have hz := (HST.out.same hs23).size
      have hz1 := hal.size
      rw [← HTK.out] at hB5
      have hB5f : ∀ k, blockOf B5 = some k → wb ≤ k := fun k hk => by
        rcases hn5 with e | ⟨j, e, hj⟩
        · exact HBF.out k (e ▸ hk)
        · rw [hk] at e
          obtain rfl := Option.some.inj e
          have := HWB.out
          omega
      have HB5 := Lib.hid hB5
      have HST5 := Lib.hid hst5
      clear hB5 hst5 hs5 hn5 hal hs23 hs3 HB HST HTK HGX HAP hap
      go_wp2
      go_roundw
      case rel => exact ⟨i + 1, B5, c5, by go_num, rfl, by omega, HB5.out, hB5f, HST5.out⟩
      case measure =>
        simp only [intOf]
        omega
    · have hin' : ¬ ((i : Int) < (n : Int)) := by omega
      obtain rfl : i = n := by omega
      go_wp2
      go_ret
      rw [List.take_of_length_le (by rw [HN.out]; exact Nat.le_refl _)] at hB
      exact ⟨B, cB, rfl, hB, by rw [HWB.out]; exact hBf, hst⟩

/-- No weight, and no number of what it has to do, is beyond. -/
def CandOk (x : Cand) : Prop := (1 ≤ x.wt ∧ x.wt ≤ 32768) ∧ (0 ≤ x.bz ∧ x.bz ≤ 65535)
def evenW (x : Cand) : Nat := loadW x.bz.toNat x.wt.toNat
theorem even_ok {x : Cand} (h : CandOk x) (w' : World) : Calls Try.prog 10 #[encC x] w' fun e w'' => e = .returned (.float .f64 (evenW x)) ∧ Step (fun _ => False) w' w'' := by
  obtain ⟨⟨h1, h2⟩, h3, h4⟩ := h
  have := even_calls (b := x.bz.toNat) (k := x.wt.toNat) (by omega) (by omega) (by omega) x.nm x.tm w'
  rw [show ((x.wt.toNat : Nat) : Int) = x.wt by omega, show ((x.bz.toNat : Nat) : Int) = x.bz by omega] at this
  exact this
set_option maxRecDepth 100000 in
theorem cleast_calls {w : World} {A : Option Addr} {n c : Nat} {l : List Cand} (h : CSeg w A n c l) (hmax : n ≤ 1000) (hok : ∀ x ∈ l, CandOk x) :
    Calls Try.prog 6 #[.slice A n c] w fun e w' => ∃ v, e = .returned (.int .i64 v) ∧ LeastOf (l.map evenW) v ∧ Step (fun _ => False) w w' := by
  have HS := scoresE_calls h hmax (f := evenW) (fun x hx w' => even_ok (hok x hx) w')
  clear h
  go_enter Try.func6, Try.ntmps6
  go_wp2_with (first | (go_at_call 9; refine HS.mono ?_; rintro e w1 ⟨B, cB, rfl, hB, hBf, hs1⟩; have HL := least_calls hB (by omega)) | (go_at_call 8; refine HL.mono ?_; rintro e w2 ⟨v, rfl, hv, rfl⟩))
  go_ret
  exact ⟨v, rfl, hv, hs1⟩
end Go.Proofs.Ythlllmnlcjkiiaa.Cho
