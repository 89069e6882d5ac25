/- the document's idle: Put. Own work of this seat; no condition but on lengths and on the life. -/
import Derived.Test.YtgohlbljdffelaaRd2
import Derived.Deep.RegionHeld3
namespace Go.Proofs.Ytgohlbljdffelaa.Rd
open Go.RowKit Go.Proofs.Ytgohlbljdffelaa.Kit Go.Proofs.Ytgohlbljdffelaa.IntS Go.Proofs.Ytgohlbljdffelaa
set_option linter.unusedVariables false
set_option linter.unusedSimpArgs false

/-- append([]One{}, l...) -/
theorem app_all {w : World} {A : Option Addr} {n cA : Nat} {l : List O3} (h : DW w A n cA l) (hn : n ≤ 100000) :
    ∃ B' c' w', (Builtin.append_ #[55, 55] 55 #[.slice (some ⟨w.heap.size, 0, none⟩) 0 0, .slice A n cA]).run Try.prog (w.alloc (.cells #[] 114)) = .ok (.slice B' n c') w' ∧
      DW w' B' n c' l ∧ (∀ k, blockOf B' = some k → w.heap.size ≤ k) ∧ Step (fun _ => False) w w' := by
  obtain ⟨i0, hi0, hz0, hs0, hy0⟩ := i0o
  have hal : Step (fun _ => False) w (w.alloc (.cells #[] 114)) := (Step.refl _ _).alloc _
  have hE0 : FSeg (w.alloc (.cells #[] 114)) 114 3 (some ⟨w.heap.size, 0, none⟩) 0 0 [] := ⟨rfl, .inr ⟨w.heap.size, #[], rfl, heap_alloc_new w _, by omega, by simp, fun j v hj => by simp at hj⟩⟩
  have hz := hal.size
  have h' := h.same hal
  obtain ⟨hl, ⟨rfl, rfl, rfl, h0⟩ | ⟨g, cur, rfl, hg, hle, hsz, hcell⟩⟩ := id h'
  · refine ⟨some ⟨w.heap.size, 0, none⟩, 0, _, ?_, ?_, fun k hk => ?_, hal⟩
    · have hf : (Builtin.firstCells 3 0 (.slice none 0 0)).run Try.prog (w.alloc (.cells #[] 114)) = .ok #[] (w.alloc (.cells #[] 114)) := by simp [Builtin.firstCells]
      have hst : (storeCells ((⟨w.heap.size, 0, none⟩ : Addr).add (0 * 3)) []).run Try.prog (w.alloc (.cells #[] 114)) = .ok () (w.alloc (.cells #[] 114)) := by simp [storeCells]
      simp [Builtin.append_, run_underlying Try.underlying55, sizeOf, typeInfo, hi0, hs0, Builtin.lenOf, hf]
      rw [Nat.zero_mul] at hst
      rw [hst]
      rfl
    · have e : ocs l = [] := h0
      unfold DW
      rw [e]
      exact hE0
    · obtain rfl : w.heap.size = k := Option.some.inj hk
      exact Nat.le_refl _
  · obtain ⟨A2, c2, w2, h1, h2, h3, h4⟩ := run_append_flat (P := Try.prog) (cB := cA) (w.alloc (.cells #[] 114)) 55 55 114 i0 _ 3 32 Try.underlying55 hi0 hz0 rfl hs0 hy0 (by omega) hE0 (m := n) (r := ocs l) (aB := ⟨g, 0, none⟩) hl (fun e => by cases e) (fun v hv => by
      obtain ⟨o, _, ho⟩ := List.mem_flatMap.1 hv
      exact oc_cell o v ho) (fun j v hj => by rw [addr_add', Nat.zero_add]; exact FSeg.cell h' hj) (by omega)
    rw [Nat.zero_add] at h1 h2
    refine ⟨A2, c2, w2, h1, h2, fun k hk => ?_, hal.trans h3 (fun j hj e => by have : w.heap.size = j := Option.some.inj e; omega)⟩
    rcases h4 with e | ⟨j, e, hj⟩
    · rw [hk] at e
      obtain rfl : k = w.heap.size := Option.some.inj e
      exact Nat.le_refl _
    · rw [hk] at e
      obtain rfl := Option.some.inj e
      omega

/-- The eldest ones of a backend go while there are too many. -/
def evictD : Nat → Int → ByteArray → List O3 → List Int → List O3 × List Int
  | 0, _, _, l, cl => (l, cl)
  | n + 1, most, s, l, cl => if most < ((ofD l s).length : Int) then (match ofD l s with | [] => (l, cl) | e :: _ => evictD n most s (dropD l e) (cl ++ [e])) else (l, cl)
theorem evictD_stop (n : Nat) {most : Int} {s : ByteArray} {l : List O3} {cl : List Int} (h : ¬ most < ((ofD l s).length : Int)) : evictD n most s l cl = (l, cl) := by
  cases n with
  | zero => rfl
  | succ n => unfold evictD; rw [if_neg h]
theorem evictD_step {n : Nat} {most : Int} {s : ByteArray} {l : List O3} {cl : List Int} {e : Int} {r : List Int} (h : most < ((ofD l s).length : Int)) (he : ofD l s = e :: r) : evictD (n + 1) most s l cl = evictD n most s (dropD l e) (cl ++ [e]) := by
  show (if most < ((ofD l s).length : Int) then (match ofD l s with | [] => (l, cl) | e :: _ => evictD n most s (dropD l e) (cl ++ [e])) else (l, cl)) = _
  rw [if_pos h, he]
theorem dropD_lt {l : List O3} {o : O3} (h : o ∈ l) : (dropD l o.conn).length < l.length := by
  unfold dropD
  refine List.length_filter_lt_length_iff_exists.2 ⟨o, h, by simp⟩
theorem ofD_mem {l : List O3} {s : ByteArray} {e : Int} (h : e ∈ ofD l s) : ∃ o ∈ l, o.conn = e := by
  obtain ⟨o, ho, rfl⟩ := List.mem_map.1 h
  exact ⟨o, (List.mem_filter.1 ho).1, rfl⟩
def clipI (x : Int) : Int := max 0 (min x 1099511627776)
theorem clipI_if (x : Int) : (if (0 : Int) < (if (1099511627776 : Int) < x then 1099511627776 else x) then (if (1099511627776 : Int) < x then 1099511627776 else x) else 0) = clipI x := by
  unfold clipI
  split <;> split <;> omega
def tm3 (life now : Int) : Int := min (clipI now + life) 1099511627776
def putD (most life : Int) (l : List O3) (s : ByteArray) (c now : Int) : List O3 × List Int := evictD (dropD l c ++ [(⟨s, c, tm3 life now⟩ : O3)]).length most s (dropD l c ++ [(⟨s, c, tm3 life now⟩ : O3)]) []
def slen : Value → Nat
  | .slice _ n _ => n
  | _ => 0

set_option maxRecDepth 100000 in
set_option maxHeartbeats 4000000 in
theorem put_calls {w : World} {A : Option Addr} {n cA : Nat} {l : List O3} (most life : Int) (hmost : 0 ≤ most) (hlife : 0 ≤ life ∧ life ≤ 1048576) (h : DW w A n cA l) (hmax : n ≤ 40000) (s : ByteArray) (c now : Int) :
    Calls Try.prog 48 #[.agg #[.int .i64 most, .int .i64 life, .slice A n cA], .string s, .int .i64 c, .int .i64 now] w fun e w' => ∃ B cB O cO, e = .returned (.tuple #[.agg #[.int .i64 most, .int .i64 life, .slice B (putD most life l s c now).1.length cB], .slice O (putD most life l s c now).2.length cO]) ∧ DW w' B (putD most life l s c now).1.length cB (putD most life l s c now).1 ∧ ISeg w' O (putD most life l s c now).2.length cO (putD most life l s c now).2 ∧ (∀ k, blockOf B = some k → w.heap.size ≤ k) ∧ (∀ k, blockOf O = some k → w.heap.size ≤ k) ∧ Step (fun _ => False) w w' := by
  obtain ⟨R, hR⟩ : ∃ R, putD most life l s c now = R := ⟨_, rfl⟩
  rw [hR]
  unfold putD tm3 at hR
  have hlen := h.len
  have hdl := dropD_le l c
  rw [hlen] at hdl
  have HD := Lib.hid (fun w1 (hs : Step (fun _ => False) w w1) => drop_calls most life (h.same hs) (by omega) c)
  have hcl := clipI_if now
  have hcb : 0 ≤ clipI now ∧ clipI now ≤ 1099511627776 := by unfold clipI; omega
  have hat : (if (1099511627776 : Int) < clipI now + life then 1099511627776 else clipI now + life) = min (clipI now + life) 1099511627776 := by split <;> omega
  generalize min (clipI now + life) 1099511627776 = tm at *
  generalize clipI now = v at *
  obtain ⟨mq, hmq⟩ : ∃ mq, (if (1099511627776 : Int) < now then 1099511627776 else now) = mq := ⟨_, rfl⟩
  rw [hmq] at hcl
  generalize dropD l c = l1 at *
  have HR := Lib.hid hR
  clear hR h hlen
  go_enter Try.func48, Try.ntmps48
  go_upto_region 1 with (fail)
  refine alloc_next2 (cs := [.int .i64 most, .int .i64 life, .slice A n cA]) (ds := [.int .i64 0, .int .i64 0, .slice none 0 0]) ?_
  intro w1 hX hR1 hs1 hl1
  obtain ⟨xb, hxb⟩ : ∃ xb, w.heap.size = xb := ⟨_, rfl⟩
  rw [hxb] at hX hR1 hl1 ⊢
  have hz1 := hs1.size
  rw [hxb] at hz1
  have HD1 := Lib.hid (HD.out w1 hs1)
  have x0 := hX.cell (i := 0) rfl
  have x1 := hX.cell (i := 1) rfl
  have x2 := hX.cell (i := 2) rfl
  clear HD
  go_upto_region 2 with (first | (go_at_call 50; refine HD1.out.mono ?_; rintro e2 w2 ⟨B, cB, rfl, hB, hBf, hs2⟩) | (refine wpList_store_blk rfl 57 (.tmp 4) (.tmp 17) rfl (hX.keep hs2 (fun h => h)) rfl (vs := [.int .i64 most, .int .i64 life, .slice B l1.length cB]) rfl (by kernel_rfl) rfl (ic3 _ _ _ _ _) ?_; intro w3 hX3 hs3))
  have hB3 := hB.keep hs3 (fun k hk e => by have := hBf k hk; omega)
  have hR3 := (hR1.keep hs2 (fun h => h)).keep hs3 (fun e => by omega)
  have hst3 : Step (fun _ => False) w w3 := (hs1.same hs2).trans hs3 (fun j hj e => by omega)
  have hz2 := hs2.size
  have hz3 := hs3.size
  clear x0 x1 x2 hX hR1 hs1 hs2 hs3 HD1 hB
  have x1 := hX3.cell (i := 1) rfl
  go_upto_region 3 with (fail)
  clear x1 hmq hcl hat hcb
  have hX3a := hX3.alloc (.cells #[] 114)
  have x2 := hX3a.cell (i := 2) rfl
  obtain ⟨B4, c4, w4, hap1, hB4, hB4f, hst34⟩ := app_all hB3 (by omega)
  obtain ⟨B5, c5, w5, hap2, hB5, hB5f, hst35, _⟩ := app_o hst34 hB4 hB4f (by omega) ⟨s, c, tm⟩
  have hX5 := hX3.keep hst35 (fun h => h)
  have hR5 := hR3.keep hst35 (fun h => h)
  have f5 := hX5.free 2
  have y5 := hX5.cell (i := 2) rfl
  have hz5 := hst35.size
  have HB5 := Lib.hid hB5
  have hst5 := hst3.same hst35
  clear hB3 hB4 hB4f hst34 hX3 hX3a hB5 hst35 hR3 hst3
  go_upto_region 4 with (first | (at_builtin; refine wpList_app1 (by rfl) (.tmp 26) (.tmp 28) 55 (by rfl) (by rfl) (by rfl) hap1 ?_) | (at_builtin; refine wpList_app1 (by rfl) (.tmp 29) (.tmp 34) 55 (by rfl) (by rfl) (by rfl) hap2 ?_))
  refine put_plain hX5 ?_
  intro w6 hX6 hs6
  have hB6 := HB5.out.keep hs6 (fun k hk e => by have := hB5f k hk; omega)
  have hR6 := hR5.keep hs6 (fun e => by omega)
  have hst6 : Step (fun _ => False) w w6 := hst5.trans hs6 (fun j hj e => by omega)
  have hz6 := hs6.size
  clear hX5 hR5 f5 y5 hap1 hap2 x2 HB5 hs6 hst5
  have hX6 : Blk w6 xb 57 [.int .i64 most, .int .i64 life, .slice B5 (l1.length + 1) c5] := hX6
  have hl1n : (l1 ++ [⟨s, c, tm⟩] : List O3).length = l1.length + 1 := by simp
  generalize (l1 ++ [⟨s, c, tm⟩] : List O3) = l2 at *
  obtain ⟨N, hN⟩ : ∃ N, l1.length + 1 = N := ⟨_, rfl⟩
  rw [hN] at hX6 hB6 hl1n ⊢
  have hNb : N ≤ 50000 := by omega
  have hRR := HR.out
  rw [hl1n] at hRR
  have HL2 := Lib.hid hl1n
  clear hN hl1n HR hdl
  go_upto_region 5 with (fail)
  have hO0 : ISeg (w6.alloc (.cells #[] 3)) (some ⟨w6.heap.size, 0, none⟩) 0 0 [] := ⟨rfl, .inr ⟨w6.heap.size, #[], rfl, by show (w6.heap.push _)[w6.heap.size]? = _; simp, Nat.le_refl _, Nat.le_refl _, fun j v hj => by simp [ic] at hj⟩⟩
  have hs0 : Step (fun _ => False) w6 (w6.alloc (.cells #[] 3)) := (Step.refl _ _).alloc _
  have hB7 := hB6.same hs0
  have hX7 := hX6.keep hs0 (fun h => h)
  have hR7 := hR6.keep hs0 (fun h => h)
  have hst7 := hst6.same hs0
  have hz17 : w1.heap.size ≤ (w6.alloc (.cells #[] 3)).heap.size := by have := hs0.size; omega
  have hf0 : ∀ k, blockOf (some (⟨w6.heap.size, 0, none⟩ : Addr)) = some k → w1.heap.size ≤ k := fun k hk => by
    obtain rfl : w6.heap.size = k := Option.some.inj hk
    omega
  have hBO0 : ∀ k, blockOf B5 = some k → blockOf (some (⟨w6.heap.size, 0, none⟩ : Addr)) ≠ some k := fun k hk e => by
    obtain rfl : w6.heap.size = k := Option.some.inj e
    have := hB6.lt hk
    omega
  have hB5g : ∀ k, blockOf B5 = some k → w1.heap.size ≤ k := fun k hk => by have := hB5f k hk; omega
  generalize hw7 : w6.alloc (.cells #[] 3) = w7 at *
  generalize (some (⟨w6.heap.size, 0, none⟩ : Addr)) = O0 at *
  have HRR := Lib.hid hRR
  have HXB := Lib.hid hxb
  clear hw7 hB6 hX6 hR6 hst6 hs0 hB5f hRR
  go_wp2
  go_loopw [11] (fun v11 wr => ∃ (f : Nat) (l' : List O3) (cl : List Int) (B : Option Addr) (cB : Nat) (O : Option Addr) (cO : Nat), v11 = .slice O cl.length cO ∧ l'.length ≤ f ∧ evictD f most s l' cl = R ∧ DW wr B l'.length cB l' ∧ (∀ k, blockOf B = some k → w1.heap.size ≤ k) ∧ ISeg wr O cl.length cO cl ∧ (∀ k, blockOf O = some k → w1.heap.size ≤ k) ∧ (∀ k, blockOf B = some k → blockOf O ≠ some k) ∧ Blk wr xb 57 [.int .i64 most, .int .i64 life, .slice B l'.length cB] ∧ Blk wr (xb + 1) 57 [.int .i64 0, .int .i64 0, .slice none 0 0] ∧ l'.length + cl.length ≤ N ∧ w1.heap.size ≤ wr.heap.size ∧ Step (fun _ => False) w wr) (fun v _ => N - slen v)
  case atStart => exact ⟨N, l2, [], B5, c5, O0, 0, rfl, by rw [HL2.out]; exact Nat.le_refl _, HRR.out, by rw [HL2.out]; exact hB7, hB5g, hO0, hf0, hBO0, by rw [HL2.out]; exact hX7, hR7, by rw [HL2.out]; simp, hz17, hst7⟩
  case round =>
    clear hB7 hX7 hR7 hst7 hf0 hBO0 hB5g hO0
    obtain ⟨f, l', cl, B, cB, O, cO, rfl, hlf, hev, hB, hBf, hO, hOf, hBO, hX, hRb, hlN, hzw, hst⟩ := hrel
    have hq4 : Step (fun _ => False) wr wr.drew := (Step.refl _ _).drew
    obtain ⟨q, hq⟩ : ∃ q, (ofD l' s).length = q := ⟨_, rfl⟩
    have hql := ofD_le l' s
    rw [hq] at hql
    have hOC := fun w2 (hs : Step (fun _ => False) wr w2) => of_calls most life (hB.same hs) (by omega) s
    rw [hq] at hOC
    have HOC := Lib.hid hOC
    have HO5 := Lib.hid (HOC.out _ hq4)
    have HSX := Lib.hid (fun w' (hs : Step (fun _ => False) wr w') => (⟨(hX.keep hs (fun h => h)).cell (i := 0) rfl, (hX.keep hs (fun h => h)).cell (i := 1) rfl, (hX.keep hs (fun h => h)).cell (i := 2) rfl⟩ : w'.cell? ⟨xb, 0, none⟩ = some (.int .i64 most) ∧ w'.cell? ⟨xb, 1, none⟩ = some (.int .i64 life) ∧ w'.cell? ⟨xb, 2, none⟩ = some (.slice B l'.length cB)))
    have HB := Lib.hid hB
    have HO := Lib.hid hO
    have HX := Lib.hid hX
    have HRB := Lib.hid hRb
    have HEV := Lib.hid hev
    have HST := Lib.hid hst
    have HLF := Lib.hid hlf
    have hz7 := hst.size
    obtain ⟨nl, hnl⟩ : ∃ nl, l'.length = nl := ⟨_, rfl⟩
    rw [hnl] at HSX HO5 hql hlN HX HB HOC HLF
    have HNL := Lib.hid hnl
    by_cases hm : most < (q : Int)
    · have hgt : ((q : Int) > most) := hm
      obtain ⟨e, r, hes⟩ : ∃ e r, ofD l' s = e :: r := by
        cases hst' : ofD l' s with
        | nil => rw [hst'] at hq; simp at hq; omega
        | cons e r => exact ⟨e, r, rfl⟩
      obtain ⟨o, ho, hoe⟩ := ofD_mem (by rw [hes]; exact List.mem_cons_self .. : e ∈ ofD l' s)
      have hdl := dropD_lt ho
      rw [hoe, hnl] at hdl
      have hq0 : 0 < q := by rw [← hq, hes]; simp
      have HES := Lib.hid (by rw [hes]; rfl : (ofD l' s)[0]? = some e)
      obtain ⟨f', rfl⟩ : ∃ f', f = f' + 1 := ⟨f - 1, by omega⟩
      have HEV2 := Lib.hid (by rw [← evictD_step (n := f') (by rw [hq]; exact hm) hes]; exact hev : evictD f' most s (dropD l' e) (cl ++ [e]) = R)
      have HDC := Lib.hid (fun w2 (hs : Step (fun _ => False) wr w2 ∨ True) (hb2 : DW w2 B nl cB l') => drop_calls most life hb2 (by omega) e)
      clear hq hOC hB hO hX hRb hev hst hlf hnl hes ho hoe hm HEV
      go_upto_region 5 with (fail)
      go_region_held3 (fun w' => w'.cell? ⟨xb, 0, none⟩ = some (.int .i64 most) ∧ w'.cell? ⟨xb, 1, none⟩ = some (.int .i64 life) ∧ w'.cell? ⟨xb, 2, none⟩ = some (.slice B nl cB)) (first | exact HSX.out _ hq6 | exact HSX.out _ hq4 | go_keep)
        ((go_at_call 51; refine HO5.out.mono ?_; rintro e6 w6' ⟨B6, c6, rfl, hB6, hB6f, hs6⟩; have hq6 : Step (fun _ => False) wr w6' := hq4.same hs6))
      all_goals
        have HO6 := Lib.hid (HOC.out _ hq6)
        obtain ⟨x0, x1, x2⟩ := HSX.out _ hq6
        clear hB6 hB6f
        go_upto_region 7 with (go_at_call 51; refine HO6.out.mono ?_; rintro e8 w8 ⟨B8, c8, rfl, hB8, hB8f, hs8⟩; obtain ⟨g8, rfl⟩ := hB8.one (i := 0) hq0; have d0 := hB8.cell (i := 0) HES.out; have hcap := hB8.le)
        have hq8 : Step (fun _ => False) wr w8 := hq6.same hs8
        clear x0 x1 x2 d0 hB8 hB8f
        have ha8 : Step (fun _ => False) w8 (w8.alloc (.cells #[.int .i64 e] 3)) := (Step.refl _ _).alloc _
        obtain ⟨O9, cO9, w9, hap, hO9, hs9', hA9⟩ := Idl.run_app1 ((HO.out.keep hq8 (fun _ _ h => h)).keep ha8 (fun _ _ h => h)) (blk_new w8 [.int .i64 e] 3) (by omega)
        have hq9 : Step (fun k => blockOf O = some k) wr w9 := ((hq8.same ha8).mono (fun _ _ h => h.elim)).same hs9'
        have hX9 := HX.out.keep hq9 (fun h => by have := hOf _ h; omega)
        have hB9 := HB.out.keep hq9 hBO
        have hR9 := HRB.out.keep hq9 (fun h => by have := hOf _ h; omega)
        have hz8 := hq8.size
        have hza := ha8.size
        have hO9f : ∀ k, blockOf O9 = some k → w1.heap.size ≤ k := fun k hk => by
          rcases hA9 with e' | ⟨j, e', hj⟩
          · exact hOf k (e' ▸ hk)
          · rw [hk] at e'
            obtain rfl := Option.some.inj e'
            have h1 := HXB.out
            omega
        have HDR := Lib.hid (HDC.out w9 (.inr trivial) hB9)
        have hcl1 : (cl ++ [e]).length = cl.length + 1 := by simp
        have HO9 := Lib.hid hO9
        have HR9 := Lib.hid hR9
        have HS9 := Lib.hid (HST.out.trans hq9 (fun j hj h => by have := hOf _ h; omega))
        clear hO9 hR9 hB9 hs9' hA9
        go_upto_region 8 with (at_builtin; refine wpList_app1 (by rfl) (.tmp 50) (.tmp 52) 40 (by rfl) (by rfl) (by rfl) hap ?_)
        have x0 := hX9.cell (i := 0) rfl
        have x1 := hX9.cell (i := 1) rfl
        have x2 := hX9.cell (i := 2) rfl
        go_wp2_with (first | (go_at_call 50; refine HDR.out.mono ?_; rintro e10 w10 ⟨B10, c10, rfl, hB10, hB10f, hs10⟩) | (refine wpList_store_blk rfl 57 (.tmp 4) (.tmp 58) rfl (hX9.keep hs10 (fun h => h)) rfl (vs := [.int .i64 most, .int .i64 life, .slice B10 (dropD l' e).length c10]) rfl (by kernel_rfl) rfl (ic3 _ _ _ _ _) ?_; intro w11 hX11 hs11))
        simp only [Act.put]
        go_roundw
        case rel => exact ⟨f', dropD l' e, cl ++ [e], B10, c10, O9, cO9, by rw [hcl1], by have := HLF.out; omega, HEV2.out, hB10.keep hs11 (fun k hk e => by have := hB10f k hk; have := hX9.lt; omega), fun k hk => by have := hB10f k hk; have := hq9.size; omega, by rw [hcl1]; exact (HO9.out.keep hs10 (fun _ _ h => h)).keep hs11 (fun k hk e => by have := hO9f k hk; omega), hO9f, fun k hk e => by have := hB10f k hk; have := HO9.out.lt e; omega, hX11, (HR9.out.keep hs10 (fun h => h)).keep hs11 (fun h => by omega), by rw [hcl1]; omega, by have := hs10.size; have := hs11.size; have := hq9.size; omega, (HS9.out.same hs10).trans hs11 (fun j hj e => by have := HXB.out; omega)⟩
        case measure => simp only [slen]; omega
    · have hgt : ¬ ((q : Int) > most) := hm
      have HFI := Lib.hid (by rw [← hev]; exact (evictD_stop _ (by rw [hq]; exact hm)) : R = (l', cl))
      clear hq hOC hB hO hX hRb hev hst hlf hnl hm HEV
      go_upto_region 5 with (fail)
      go_region_held3 (fun w' => w'.cell? ⟨xb, 0, none⟩ = some (.int .i64 most) ∧ w'.cell? ⟨xb, 1, none⟩ = some (.int .i64 life) ∧ w'.cell? ⟨xb, 2, none⟩ = some (.slice B nl cB)) (first | exact HSX.out _ hq6 | exact HSX.out _ hq4 | go_keep)
        ((go_at_call 51; refine HO5.out.mono ?_; rintro e6 w6' ⟨B6, c6, rfl, hB6, hB6f, hs6⟩; have hq6 : Step (fun _ => False) wr w6' := hq4.same hs6))
      all_goals
        obtain ⟨x0, x1, x2⟩ := HSX.out _ hq6
        have hR6' := HRB.out.keep hq6 (fun h => h)
        clear hB6 hB6f
        go_wp2_with (refine wpList_store_blk rfl 57 (.tmp 8) (.tmp 60) rfl hR6' rfl (vs := [.int .i64 most, .int .i64 life, .slice B nl cB]) rfl (by kernel_rfl) rfl (ic3 _ _ _ _ _) ?_; intro w11 hX11 hs11)
        try simp only [Exit.inBlock, Exit.then]
        refine post_ct (cs := [.int .i64 most, .int .i64 life, .slice B nl cB]) rfl rfl hX11 Try.underlying57 rfl (by kernel_rfl) rfl rfl ?_
        rw [HFI.out]
        have hw := HXB.out
        exact ⟨B, cB, O, cO, by rw [HNL.out]; rfl, by rw [HNL.out]; exact (HB.out.same hq6).keep hs11 (fun k hk e => by have := hBf k hk; omega), (HO.out.keep hq6 (fun _ _ h => h)).keep hs11 (fun k hk e => by have := hOf k hk; omega), fun k hk => by have := hBf k hk; omega, fun k hk => by have := hOf k hk; omega, (HST.out.same hq6).trans hs11 (fun j hj e => by omega)⟩
end Go.Proofs.Ytgohlbljdffelaa.Rd
