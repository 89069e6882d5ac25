/- the document's idle: Expire. Own work of this seat; no condition but on lengths. -/
import Derived.Test.YtgohlbljdffelaaRd3
namespace Go.Proofs.Ytgohlbljdffelaa.Rd
open Go.RowKit Go.Proofs.Ytgohlbljdffelaa.Kit Go.Proofs.Ytgohlbljdffelaa.IntS Go.Proofs.Ytgohlbljdffelaa
set_option linter.unusedVariables false
set_option linter.unusedSimpArgs false

theorem fold_mem : ∀ (r : List O3) (b : O3), r.foldl bstep b = b ∨ r.foldl bstep b ∈ r
  | [], b => .inl rfl
  | x :: r, b => by
    rw [List.foldl_cons]
    rcases fold_mem r (bstep b x) with h | h
    · rw [h]
      unfold bstep
      split
      · exact .inr (List.mem_cons_self ..)
      · exact .inl rfl
    · exact .inr (List.mem_cons_of_mem _ h)
theorem best_mem {l : List O3} (h : l.length ≠ 0) : bestD l ∈ l := by
  cases l with
  | nil => simp at h
  | cons x r =>
    show r.foldl bstep x ∈ x :: r
    rcases fold_mem r x with e | e
    · rw [e]; exact List.mem_cons_self ..
    · exact List.mem_cons_of_mem _ e
/-- Those whose time it is go. -/
def expN : Nat → Int → List O3 → List Int → List O3 × List Int
  | 0, _, l, cl => (l, cl)
  | n + 1, now, l, cl => if l.length = 0 ∨ (bestD l).tm > now then (l, cl) else expN n now (dropD l (bestD l).conn) (cl ++ [(bestD l).conn])
theorem exp_stop (n : Nat) {now : Int} {l : List O3} {cl : List Int} (h : l.length = 0 ∨ (bestD l).tm > now) : expN n now l cl = (l, cl) := by
  cases n with
  | zero => rfl
  | succ n => unfold expN; rw [if_pos h]
theorem exp_step {n : Nat} {now : Int} {l : List O3} {cl : List Int} (h : ¬ (l.length = 0 ∨ (bestD l).tm > now)) : expN (n + 1) now l cl = expN n now (dropD l (bestD l).conn) (cl ++ [(bestD l).conn]) := by
  show (if l.length = 0 ∨ (bestD l).tm > now then (l, cl) else expN n now (dropD l (bestD l).conn) (cl ++ [(bestD l).conn])) = _
  rw [if_neg h]
def expD (l : List O3) (now : Int) : List O3 × List Int := expN l.length now l []

set_option maxRecDepth 100000 in
set_option maxHeartbeats 4000000 in
theorem expire_calls {w : World} {A : Option Addr} {n cA : Nat} {l : List O3} (most life : Int) (h : DW w A n cA l) (hmax : n ≤ 40000) (now : Int) :
    Calls Try.prog 53 #[.agg #[.int .i64 most, .int .i64 life, .slice A n cA], .int .i64 now] w fun e w' => ∃ B cB O cO, e = .returned (.tuple #[.agg #[.int .i64 most, .int .i64 life, .slice B (expD l now).1.length cB], .slice O (expD l now).2.length cO]) ∧ DW w' B (expD l now).1.length cB (expD l now).1 ∧ ISeg w' O (expD l now).2.length cO (expD l now).2 ∧ (∀ k, blockOf B = some k → blockOf A = some k ∨ w.heap.size ≤ k) ∧ (∀ k, blockOf O = some k → w.heap.size ≤ k) ∧ Step (fun _ => False) w w' := by
  obtain ⟨R, hR⟩ : ∃ R, expD l now = R := ⟨_, rfl⟩
  rw [hR]
  unfold expD at hR
  have hlen := h.len
  rw [hlen] at hR
  have HR := Lib.hid hR
  have HH := Lib.hid h
  have HL := Lib.hid hlen
  clear hR h hlen
  go_enter Try.func53, Try.ntmps53
  go_upto_region 1 with (fail)
  refine alloc_next2 (cs := [.int .i64 most, .int .i64 life, .slice A n cA]) (ds := [.int .i64 0, .int .i64 0, .slice none 0 0]) ?_
  intro w1 hX hR1 hs1 hl1
  obtain ⟨xb, hxb⟩ : ∃ xb, w.heap.size = xb := ⟨_, rfl⟩
  rw [hxb] at hX hR1 hl1 ⊢
  have hz1 := hs1.size
  rw [hxb] at hz1
  have HXB := Lib.hid hxb
  clear hxb
  go_upto_region 2 with (fail)
  have hO0 : ISeg (w1.alloc (.cells #[] 3)) (some ⟨w1.heap.size, 0, none⟩) 0 0 [] := ⟨rfl, .inr ⟨w1.heap.size, #[], rfl, by show (w1.heap.push _)[w1.heap.size]? = _; simp, Nat.le_refl _, Nat.le_refl _, fun j v hj => by simp [ic] at hj⟩⟩
  have hs0 : Step (fun _ => False) w1 (w1.alloc (.cells #[] 3)) := (Step.refl _ _).alloc _
  have hst7 := hs1.same hs0
  have hB7 := HH.out.same hst7
  have hX7 := hX.keep hs0 (fun h => h)
  have hR7 := hR1.keep hs0 (fun h => h)
  have hz17 := hs0.size
  have hf0 : ∀ k, blockOf (some (⟨w1.heap.size, 0, none⟩ : Addr)) = some k → w1.heap.size ≤ k := fun k hk => by
    obtain rfl : w1.heap.size = k := Option.some.inj hk
    exact Nat.le_refl _
  have hAx : ∀ k, blockOf A = some k → k < xb := fun k hk => by have := HH.out.lt hk; have := HXB.out; omega
  have hBO0 : ∀ k, blockOf A = some k → blockOf (some (⟨w1.heap.size, 0, none⟩ : Addr)) ≠ some k := fun k hk e => by
    obtain rfl : w1.heap.size = k := Option.some.inj e
    have := hAx _ hk
    omega
  generalize hw7 : w1.alloc (.cells #[] 3) = w7 at *
  generalize (some (⟨w1.heap.size, 0, none⟩ : Addr)) = O0 at *
  clear hw7 hX hR1 hs1 hs0
  go_wp2
  go_loopw [6] (fun v6 wr => ∃ (f : Nat) (l' : List O3) (cl : List Int) (B : Option Addr) (cB : Nat) (O : Option Addr) (cO : Nat), v6 = .slice O cl.length cO ∧ l'.length ≤ f ∧ expN f now l' cl = R ∧ DW wr B l'.length cB l' ∧ (∀ k, blockOf B = some k → k ≠ xb ∧ k ≠ xb + 1 ∧ (blockOf A = some k ∨ w1.heap.size ≤ k)) ∧ ISeg wr O cl.length cO cl ∧ (∀ k, blockOf O = some k → w1.heap.size ≤ k) ∧ (∀ k, blockOf B = some k → blockOf O ≠ some k) ∧ Blk wr xb 57 [.int .i64 most, .int .i64 life, .slice B l'.length cB] ∧ Blk wr (xb + 1) 57 [.int .i64 0, .int .i64 0, .slice none 0 0] ∧ l'.length + cl.length ≤ n ∧ w1.heap.size ≤ wr.heap.size ∧ Step (fun _ => False) w wr) (fun v _ => n - slen v)
  case atStart => exact ⟨n, l, [], A, cA, O0, 0, rfl, by rw [HL.out]; exact Nat.le_refl _, HR.out, by rw [HL.out]; exact hB7, fun k hk => ⟨by have := hAx k hk; omega, by have := hAx k hk; omega, .inl hk⟩, hO0, hf0, hBO0, by rw [HL.out]; exact hX7, hR7, by rw [HL.out]; simp, hz17, hst7⟩
  case round =>
    clear hB7 hX7 hR7 hst7 hf0 hBO0 hO0 hz17
    obtain ⟨f, l', cl, B, cB, O, cO, rfl, hlf, hev, hB, hBf, hO, hOf, hBO, hX, hRb, hlN, hzw, hst⟩ := hrel
    have hFC := first_calls most life hB (by omega)
    obtain ⟨nl, hnl⟩ : ∃ nl, l'.length = nl := ⟨_, rfl⟩
    obtain ⟨b, hb⟩ : ∃ b, bestD l' = b := ⟨_, rfl⟩
    rw [hb] at hFC
    obtain ⟨bk, bc, bt⟩ := b
    simp only at hFC
    have HB := Lib.hid hB
    have HO := Lib.hid hO
    have HRB := Lib.hid hRb
    have HST := Lib.hid hst
    have HLF := Lib.hid hlf
    have HNL := Lib.hid hnl
    rw [hnl] at hFC hX hlN HB HLF
    have x0 := hX.cell (i := 0) rfl
    have x1 := hX.cell (i := 1) rfl
    have x2 := hX.cell (i := 2) rfl
    by_cases hgo : nl = 0 ∨ bt > now
    · have HFI := Lib.hid (by rw [← hev]; exact exp_stop _ (by rw [hb, hnl]; exact hgo) : R = (l', cl))
      have hcase : (decide (0 < nl) = false) ∨ (decide (0 < nl) = true ∧ bt > now) := by
        by_cases h0 : nl = 0
        · exact .inl (by simp [h0])
        · exact .inr ⟨by simp; omega, hgo.resolve_left h0⟩
      clear hev hB hO hRb hst hlf hnl hb hgo
      rcases hcase with hd | ⟨hd, hgt⟩
      all_goals
        rw [hd] at hFC
        have HFC := Lib.hid hFC
        clear hd hFC
        go_upto_region 3 with (go_at_call 56; refine HFC.out.mono ?_; rintro e2 w2 ⟨rfl, hs2⟩)
        refine alloc_next (cs := [.string bk, .int .i64 bc, .int .i64 bt]) ?_
        intro w3 hE hs3
        have hq3 := hs2.same hs3
        have hX3 := hX.keep hq3 (fun h => h)
        have hR3 := HRB.out.keep hq3 (fun h => h)
        clear x0 x1 x2 hs2 hs3
        have x0 := hX3.cell (i := 0) rfl
        have x1 := hX3.cell (i := 1) rfl
        have x2 := hX3.cell (i := 2) rfl
        have e2 := hE.cell (i := 2) rfl
        go_wp2_with (refine wpList_store_blk rfl 57 (.tmp 4) (.tmp 23) rfl hR3 rfl (vs := [.int .i64 most, .int .i64 life, .slice B nl cB]) rfl (by kernel_rfl) rfl (ic3 _ _ _ _ _) ?_; intro w11 hX11 hs11)
        try simp only [Exit.inBlock, Exit.then]
        refine post_ct (cs := [.int .i64 most, .int .i64 life, .slice B nl cB]) rfl rfl hX11 Try.underlying57 rfl (by kernel_rfl) rfl rfl ?_
        rw [HFI.out]
        have hw := HXB.out
        exact ⟨B, cB, O, cO, by rw [HNL.out]; rfl, by rw [HNL.out]; exact (HB.out.same hq3).keep hs11 (fun k hk e => (hBf k hk).2.1 e), (HO.out.keep hq3 (fun _ _ h => h)).keep hs11 (fun k hk e => by have := hOf k hk; omega), fun k hk => (hBf k hk).2.2.imp id (fun h => by omega), fun k hk => by have := hOf k hk; omega, (HST.out.same hq3).trans hs11 (fun j hj e => by omega)⟩
    · have h0 : ¬ nl = 0 := fun e => hgo (.inl e)
      have hgt : ¬ bt > now := fun e => hgo (.inr e)
      have hd : decide (0 < nl) = true := by simp; omega
      rw [hd] at hFC
      have hmem := best_mem (l := l') (by omega)
      have hdl := dropD_lt hmem
      rw [hb, hnl] at hdl
      simp only at hdl
      obtain ⟨f', rfl⟩ : ∃ f', f = f' + 1 := ⟨f - 1, by omega⟩
      have hev2 := hev
      rw [exp_step (n := f') (by rw [hb, hnl]; exact hgo), hb] at hev2
      simp only at hev2
      have HEV2 := Lib.hid hev2
      have HFC := Lib.hid hFC
      have HDC := Lib.hid (fun w2 (hb2 : DW w2 B nl cB l') => drop_calls most life hb2 (by omega) bc)
      clear hev hB hO hRb hst hlf hnl hb hgo hd hFC hmem hev2
      go_upto_region 3 with (go_at_call 56; refine HFC.out.mono ?_; rintro e2 w2 ⟨rfl, hs2⟩)
      refine alloc_next (cs := [.string bk, .int .i64 bc, .int .i64 bt]) ?_
      intro w3 hE hs3
      have hq3 : Step (fun _ => False) wr w3 := hs2.same hs3
      have hz2 := hs2.size
      have hzwr := HRB.out.lt
      obtain ⟨eb, heb⟩ : ∃ eb, w2.heap.size = eb := ⟨_, rfl⟩
      rw [heb] at hE hz2 ⊢
      clear x0 x1 x2 hs2 hs3 heb HFC
      have e1 := hE.cell (i := 1) rfl
      have e2 := hE.cell (i := 2) rfl
      go_upto_region 5 with (fail)
      have ha3 : Step (fun _ => False) w3 (w3.alloc (.cells #[.int .i64 bc] 3)) := (Step.refl _ _).alloc _
      have hE3 := hE.keep ha3 (fun h => h)
      have e1' := hE3.cell (i := 1) rfl
      obtain ⟨O9, cO9, w9, hap, hO9, hs9', hA9⟩ := Idl.run_app1 ((HO.out.keep hq3 (fun _ _ h => h)).keep ha3 (fun _ _ h => h)) (blk_new w3 [.int .i64 bc] 3) (by omega)
      have hq9 : Step (fun k => blockOf O = some k) wr w9 := ((hq3.same ha3).mono (fun _ _ h => h.elim)).same hs9'
      have HOL := Lib.hid (fun k (hk : blockOf O = some k) => HO.out.lt hk)
      have hE9 := hE3.keep hs9' (fun h => by have := HOL.out _ h; omega)
      have hX9 := hX.keep hq9 (fun h => by have := hOf _ h; omega)
      have hB9 := HB.out.keep hq9 hBO
      have hR9 := HRB.out.keep hq9 (fun h => by have := hOf _ h; omega)
      have hz3 := hq3.size
      have hza := ha3.size
      have hO9f : ∀ k, blockOf O9 = some k → w1.heap.size ≤ k := fun k hk => by
        rcases hA9 with e' | ⟨j, e', hj⟩
        · exact hOf k (e' ▸ hk)
        · rw [hk] at e'
          obtain rfl := Option.some.inj e'
          omega
      have HDR := Lib.hid (HDC.out w9 hB9)
      have hcl1 : (cl ++ [bc]).length = cl.length + 1 := by simp
      have HO9 := Lib.hid hO9
      have HR9 := Lib.hid hR9
      have HS9 := Lib.hid (HST.out.trans hq9 (fun j hj h => by have := hOf _ h; have := HXB.out; omega))
      have hz9 := hq9.size
      clear hO9 hR9 hB9 hs9' hA9 hX e2 HDC
      go_upto_region 6 with (at_builtin; refine wpList_app1 (by rfl) (.tmp 25) (.tmp 28) 40 (by rfl) (by rfl) (by rfl) hap ?_)
      clear e1 e1'
      have x0 := hX9.cell (i := 0) rfl
      have x1 := hX9.cell (i := 1) rfl
      have x2 := hX9.cell (i := 2) rfl
      have e1 := hE9.cell (i := 1) rfl
      go_wp2_with (first | (go_at_call 50; refine HDR.out.mono ?_; rintro e10 w10 ⟨B10, c10, rfl, hB10, hB10f, hs10⟩) | (refine wpList_store_blk rfl 57 (.tmp 2) (.tmp 35) rfl (hX9.keep hs10 (fun h => h)) rfl (vs := [.int .i64 most, .int .i64 life, .slice B10 (dropD l' bc).length c10]) rfl (by kernel_rfl) rfl (ic3 _ _ _ _ _) ?_; intro w11 hX11 hs11))
      simp only [Act.put]
      go_roundw
      case rel => exact ⟨f', dropD l' bc, cl ++ [bc], B10, c10, O9, cO9, by rw [hcl1], by have := HLF.out; omega, HEV2.out, hB10.keep hs11 (fun k hk e => by have := hB10f k hk; have := hX9.lt; omega), fun k hk => by have := hB10f k hk; exact ⟨by omega, by omega, .inr (by omega)⟩, by rw [hcl1]; exact (HO9.out.keep hs10 (fun _ _ h => h)).keep hs11 (fun k hk e => by have := hO9f k hk; omega), hO9f, fun k hk e => by have := hB10f k hk; have := HO9.out.lt e; omega, hX11, (HR9.out.keep hs10 (fun h => h)).keep hs11 (fun h => by omega), by rw [hcl1]; omega, by have := hs10.size; have := hs11.size; omega, (HS9.out.same hs10).trans hs11 (fun j hj e => by have := HXB.out; omega)⟩
      case measure => simp only [slen]; omega
end Go.Proofs.Ytgohlbljdffelaa.Rd
