/- law 25: a call of both, idle and the document's. Own work of this seat; printed by gen_idldo.py. -/
import Derived.Test.YtgohlbljdffelaaIdlG
import Derived.Test.YtgohlbljdffelaaIdlF
namespace Go.Proofs.Ytgohlbljdffelaa.Idl
open Go.RowKit Go.Proofs.Ytgohlbljdffelaa.Kit Go.Proofs.Ytgohlbljdffelaa.AgP Go.Proofs.Ytgohlbljdffelaa.IntS Go.Proofs.Ytgohlbljdffelaa.Rd Go.Proofs.Ytgohlbljdffelaa.Cut Go.Proofs.Ytgohlbljdffelaa
set_option linter.unusedVariables false
set_option linter.unusedSimpArgs false

theorem alloc_next3 {P : Program} {c : Code} {Q : Exit → Act → World → Prop} {a : Act} {w : World} {T T' T'' : TypeId} {cs ds es : List Value}
    (k : ∀ w1, Blk w1 w.heap.size T cs → Blk w1 (w.heap.size + 1) T' ds → Blk w1 (w.heap.size + 2) T'' es → Step (fun _ => False) w w1 → w.heap.size + 2 < w1.heap.size → Code.wp P c Q a w1) : Code.wp P c Q a (((w.alloc (.cells cs.toArray T)).alloc (.cells ds.toArray T')).alloc (.cells es.toArray T'')) := by
  have e : ∀ (u : World) (o : Obj), (u.alloc o).heap.size = u.heap.size + 1 := fun u o => by show (u.heap.push _).size = _; simp
  have h2 := blk_new (w.alloc (.cells cs.toArray T)) ds T'
  have h3 := blk_new ((w.alloc (.cells cs.toArray T)).alloc (.cells ds.toArray T')) es T''
  rw [e] at h2
  rw [e, e] at h3
  exact k _ (((blk_new w cs T).alloc _).alloc _) (h2.alloc _) h3 ((((Step.refl _ _).alloc _).alloc _).alloc _) h3.lt
theorem put3 {w : World} {b : Nat} {T : TypeId} {u0 u1 u2 : Value} (h : Blk w b T [u0, u1, u2]) (v0 v1 v2 : Value) :
    Blk (((w.setCell ⟨b, 0, none⟩ v0).setCell ⟨b, 1, none⟩ v1).setCell ⟨b, 2, none⟩ v2) b T [v0, v1, v2] ∧ Step (· = b) w (((w.setCell ⟨b, 0, none⟩ v0).setCell ⟨b, 1, none⟩ v1).setCell ⟨b, 2, none⟩ v2) :=
  ⟨((h.set 0 v0).set 1 v1).set 2 v2, ((step_put w b 0 _).same (step_put _ b 1 _)).same (step_put _ b 2 _)⟩
theorem num_same {w : World} {A B : Option Addr} {n c d : Nat} {l : List Int} (h : ISeg w A n c l) (k : ISeg w B n d l) (hmax : n ≤ 1000000) :
    Calls Try.prog 36 #[.slice A n c, .slice B n d] w fun e w' => e = .returned (.bool true) ∧ Step (fun _ => False) w w' := by
  have := numbers_calls h k hmax
  rwa [decide_eq_true rfl] at this
theorem evict_out : ∀ (n : Nat) (most : Int) (s : ByteArray) (l : List On) (cl : List Int), (evictN n most s l cl).2.length ≤ cl.length + n
  | 0, _, _, _, cl => Nat.le_refl _
  | n + 1, most, s, l, cl => by
    by_cases h : most < ((stackOf l s).length : Int)
    · cases he : stackOf l s with
      | nil => rw [evict_nil n most cl he]; exact Nat.le_add_right _ _
      | cons e r =>
        rw [evict_step h he]
        have := evict_out n most s (dropC l e) (cl ++ [e])
        rw [List.length_append, List.length_singleton] at this
        omega
    · rw [evict_stop _ h]; exact Nat.le_add_right _ _
theorem putL_out (most : Int) (l : List On) (s : ByteArray) (c tm turn : Int) : (putL most l s c tm turn).2.length ≤ l.length + 1 := by
  have h1 := evict_out (addO l s c tm turn).length most s (addO l s c tm turn) []
  have h2 : (addO l s c tm turn).length ≤ l.length + 1 := by
    unfold addO dropC
    rw [List.length_append, List.length_singleton]
    have := List.length_filter_le (fun o : On => decide (o.conn ≠ c)) l
    omega
  unfold putL
  rw [List.length_nil] at h1
  omega
theorem expN_out : ∀ (n : Nat) (now : Int) (l : List O3) (cl : List Int), (expN n now l cl).2.length ≤ cl.length + n
  | 0, _, _, cl => Nat.le_refl _
  | n + 1, now, l, cl => by
    by_cases h : l.length = 0 ∨ (bestD l).tm > now
    · rw [exp_stop _ h]; exact Nat.le_add_right _ _
    · rw [exp_step h]
      have := expN_out n now (dropD l (bestD l).conn) (cl ++ [(bestD l).conn])
      rw [List.length_append, List.length_singleton] at this
      omega
theorem expD_out (l : List O3) (now : Int) : (expD l now).2.length ≤ l.length := by
  have := expN_out l.length now l []
  unfold expD
  simpa using this
/-- Both: the connections l wait, and the document's row is theirs. -/
structure Bo (w : World) (p : Nat) (F : Nat → Prop) (most life : Int) (l : List On) (t : Nat) (B : Option Addr) (c : Nat) : Prop where
  id : IdR w p F most life l t
  dw : DW w B l.length c (tl l)
  sep : ∀ k, blockOf B = some k → ¬ F k
theorem Bo.same {w w' : World} {p : Nat} {F : Nat → Prop} {most life : Int} {l : List On} {t : Nat} {B : Option Addr} {c : Nat} (h : Bo w p F most life l t B c) (hs : Step (fun _ => False) w w') : Bo w' p F most life l t B c := ⟨h.id.same hs, h.dw.same hs, h.sep⟩
theorem Bo.keep {w w' : World} {p : Nat} {F G : Nat → Prop} {most life : Int} {l : List On} {t : Nat} {B : Option Addr} {c : Nat} (h : Bo w p F most life l t B c) (hs : Step G w w') (h1 : ∀ k, F k → ¬ G k) (h2 : ∀ k, blockOf B = some k → ¬ G k) : Bo w' p F most life l t B c := ⟨h.id.keep hs h1, h.dw.keep hs h2, h.sep⟩
def DoP (w : World) (p : Nat) (F : Nat → Prop) (most life : Int) (l : List On) (t : Nat) (B : Option Addr) (c : Nat) (kd cn nn now : Int) (ks : ByteArray) : Prop :=
    Calls Try.prog 26 #[.pointer (some ⟨p, 0, none⟩), .agg #[.int .i64 most, .int .i64 life, .slice B l.length c], .agg #[.int .i64 kd, .int .i64 cn, .int .i64 nn, .string ks], .int .i64 now] w fun e w' => ∃ F' l' t' B' c', e = .returned (.tuple #[.agg #[.int .i64 most, .int .i64 life, .slice B' l'.length c'], .bool true]) ∧ Bo w' p F' most life l' t' B' c' ∧ t' ≤ t + 1 ∧ Step F w w' ∧ (∀ k, F' k → F k ∨ w.heap.size ≤ k) ∧ (∀ k, blockOf B' = some k → blockOf B = some k ∨ w.heap.size ≤ k)

set_option maxRecDepth 100000 in
set_option maxHeartbeats 4000000 in
theorem do0_calls {w : World} {p : Nat} {F : Nat → Prop} {most life : Int} {l : List On} {t : Nat} {B : Option Addr} {c : Nat} (h : Bo w p F most life l t B c) (ht : t ≤ 10000) (hmost : 0 ≤ most) (hlife : 0 ≤ life ∧ life ≤ 1048576) (cn nn now : Int) (hcn : AgInt.KOk cn) (ks : ByteArray) (hks : ks.size ≤ 9223372036854775807) :
    DoP w p F most life l t B c 0 cn nn now ks := by
  unfold DoP
  have hll := h.id.len_le
  have HCU := Lib.hid (fun w' => cut_calls ks 12 hks w')
  have hssz := cutB_size ks 12
  generalize cutB ks 12 = s at *
  have hsk : s.size ≤ 1000 := by omega
  have HB := Lib.hid h
  have hFl : ∀ k, F k → k < w.heap.size := h.id.1
  have hBl : ∀ k, blockOf B = some k → k < w.heap.size := fun k hk => h.dw.lt hk
  have hdw := h.dw
  obtain ⟨nl, hnl⟩ : ∃ nl, l.length = nl := ⟨_, rfl⟩
  have HNL := Lib.hid hnl
  rw [hnl] at hll hdw ⊢
  have HDW := Lib.hid hdw
  clear h hnl hdw hks hssz
  go_enter Try.func26, Try.ntmps26
  go_upto_region 1 with (fail)
  refine alloc_next3 (cs := [.int .i64 most, .int .i64 life, .slice B nl c]) (ds := [.int .i64 0, .int .i64 cn, .int .i64 nn, .string ks]) (es := [.int .i64 0, .int .i64 0, .slice none 0 0]) ?_
  intro w1 hX hE hR1 hs1 hl1
  have hz1 := hs1.size
  obtain ⟨xb, hxb⟩ : ∃ xb, w.heap.size = xb := ⟨_, rfl⟩
  rw [hxb] at hX hE hR1 hl1 hz1 hFl hBl ⊢
  have HXB := Lib.hid hxb
  clear hxb
  have e3 := hE.cell (i := 3) rfl
  go_upto_region 2 with (go_at_call 15; refine (HCU.out _).mono ?_; rintro e5 w5 ⟨rfl, rfl⟩)
  clear e3 HCU
  have HI1 := Lib.hid (HB.out.id.same hs1)
  have HD1 := Lib.hid (HDW.out.same hs1)
  have e0 := hE.cell (i := 0) rfl
  have e1 := hE.cell (i := 1) rfl
  have x0 := hX.cell (i := 0) rfl
  have x1 := hX.cell (i := 1) rfl
  have x2 := hX.cell (i := 2) rfl
  have HP := Rd.put_calls most life hmost hlife HD1.out (by omega) s cn now
  rw [tl_put hlife.1 l s cn now ((t + 1 : Nat) : Int)] at HP
  have HQ := fun w7 (hs7 : Step (fun _ => False) w1 w7) => Idl.put_calls (HI1.out.same hs7) (by omega) hlife hmost hsk hcn now
  have hol := putL_out most l s cn (AgInt.clipT (AgInt.clipT now + life)) ((t + 1 : Nat) : Int)
  rw [HNL.out] at hol
  generalize putL most l s cn (AgInt.clipT (AgInt.clipT now + life)) ((t + 1 : Nat) : Int) = r at *
  obtain ⟨q, o⟩ := r
  simp only [tl_length] at HP HQ hol
  have HP := Lib.hid HP
  have HQ := Lib.hid HQ
  go_upto_region 5 with (go_at_call 48; refine HP.out.mono ?_; rintro e6 w6 ⟨B6, c6, O6, d6, rfl, hB6, hO6, hBf6, hOf6, hs6⟩)
  refine alloc_next (cs := [.int .i64 most, .int .i64 life, .slice B6 q.length c6]) ?_
  intro w7 hY hs7
  have hs67 := hs6.same hs7
  have hz6 := hs6.size
  have hE7 := hE.keep hs67 (fun h => h)
  have hR7 := hR1.keep hs67 (fun h => h)
  have hB7 := hB6.same hs7
  have hO7 := hO6.keep hs7 (fun _ _ h => h)
  obtain ⟨yb, hyb⟩ : ∃ yb, w6.heap.size = yb := ⟨_, rfl⟩
  rw [hyb] at hY hz6 ⊢
  have HYB := Lib.hid hyb
  clear hyb e0 e1 x0 x1 x2 HP
  have hq7 : Step F w7 w7.drew := (Step.refl _ _).drew
  have HQ7 := Lib.hid (HQ.out _ hs67.drew)
  have HS := Lib.hid (fun w' (hs : Step F w7 w') => (⟨(hY.keep hs (fun h => by have := hFl _ h; omega)).cell (i := 0) rfl, (hY.keep hs (fun h => by have := hFl _ h; omega)).cell (i := 1) rfl, (hY.keep hs (fun h => by have := hFl _ h; omega)).cell (i := 2) rfl, (hE7.keep hs (fun h => by have := hFl _ h; omega)).cell (i := 1) rfl⟩ : w'.cell? ⟨yb, 0, none⟩ = some (.int .i64 most) ∧ w'.cell? ⟨yb, 1, none⟩ = some (.int .i64 life) ∧ w'.cell? ⟨yb, 2, none⟩ = some (.slice B6 q.length c6) ∧ w'.cell? ⟨xb + 1, 1, none⟩ = some (.int .i64 cn)))
  have HR := Lib.hid (fun w' (hs : Step F w7 w') => hR7.keep hs (fun h => by have := hFl _ h; omega))
  have HO7 := Lib.hid (fun w' (hs : Step F w7 w') => hO7.keep hs (fun k hk h => by have := hFl _ h; have := hOf6 k hk; omega))
  have HB7 := Lib.hid (fun w' (hs : Step F w7 w') => hB7.keep hs (fun k hk h => by have := hFl _ h; have := hBf6 k hk; omega))
  have HST := Lib.hid (hs1.same hs67)
  have hz7 := hs7.size
  have hz67 := hY.lt
  have hyx : yb ≠ xb + 1 + 1 := by omega
  have hxy : xb + 1 + 1 ≠ yb := by omega
  clear HQ hE hX hR1 hE7 hR7 hO7 hB7 hB6 hO6 hs6 hs7 hY hs1 hs67
  go_region_held3 (fun w' => w'.cell? ⟨yb, 0, none⟩ = some (.int .i64 most) ∧ w'.cell? ⟨yb, 1, none⟩ = some (.int .i64 life) ∧ w'.cell? ⟨yb, 2, none⟩ = some (.slice B6 q.length c6) ∧ w'.cell? ⟨xb + 1, 1, none⟩ = some (.int .i64 cn)) (first | exact HS.out _ hq9 | exact HS.out _ hq8 | exact HS.out _ hq7 | go_keep)
    ((first | (go_at_call 16; refine HQ7.out.mono ?_; rintro e8 w8 ⟨F8, A8, c8, rfl, hA8, hA8f, hI8, hs8, hn8⟩; have hq8 : Step F w7 w8 := hq7.same hs8) | (go_at_call 36; refine (num_same hA8 (HO7.out _ hq8) (by omega)).mono ?_; rintro e9 w9 ⟨rfl, hs9⟩; have hq9 : Step F w7 w9 := hq8.same (hs9.mono (fun _ _ h => h.elim)); have hR9 := HR.out _ hq9; have f0 := hR9.free 0; have f1 := hR9.free 1; have f2 := hR9.free 2; have r0 := hR9.cell (i := 0) rfl; have r1 := hR9.cell (i := 1) rfl; have r2 := hR9.cell (i := 2) rfl)))
  all_goals
    obtain ⟨hZ, hsZ⟩ := put3 hR9 (.int .i64 most) (.int .i64 life) (.slice B6 q.length c6)
    have HZ := Lib.hid hZ
    have HSZ := Lib.hid hsZ
    clear hZ hsZ
    go_wp2
    try simp only [Exit.inBlock, Exit.then]
    refine post_ct (cs := [.int .i64 most, .int .i64 life, .slice B6 q.length c6]) rfl rfl HZ.out Try.underlying57 rfl (by kernel_rfl) rfl rfl ?_
    have hxw := HXB.out
    have hn8' : ∀ k, F8 k → F k ∨ w7.heap.size ≤ k := fun k hk => hn8 k hk
    exact ⟨F8, q, t + 1, B6, c6, rfl, ⟨(hI8.same hs9).keep HSZ.out (fun k hk e => (hn8' k hk).elim (fun h => by have := hFl k h; omega) (fun h => by omega)), (HB7.out _ hq9).keep HSZ.out (fun k hk e => by have := hBf6 k hk; omega), fun k hk hF => by
      have h1 := (HB7.out _ hq7).lt hk
      have h2 := hBf6 k hk
      rcases hn8' k hF with h | h
      · have := hFl k h; omega
      · have h3 : w7.drew.heap.size = w7.heap.size := rfl
        omega⟩, Nat.le_refl _, ((HST.out.mono (fun _ _ h => h.elim)).same hq9).trans HSZ.out (fun j hj e => by omega), fun k hk => (hn8' k hk).imp id (fun h => by omega), fun k hk => .inr (by have := hBf6 k hk; omega)⟩

set_option maxRecDepth 100000 in
set_option maxHeartbeats 4000000 in
theorem do1_calls {w : World} {p : Nat} {F : Nat → Prop} {most life : Int} {l : List On} {t : Nat} {B : Option Addr} {c : Nat} (h : Bo w p F most life l t B c) (ht : t ≤ 10000) (hmost : 0 ≤ most) (hlife : 0 ≤ life ∧ life ≤ 1048576) (cn nn now : Int) (hcn : AgInt.KOk cn) (ks : ByteArray) (hks : ks.size ≤ 9223372036854775807) :
    DoP w p F most life l t B c 1 cn nn now ks := by
  unfold DoP
  have hll := h.id.len_le
  have HCU := Lib.hid (fun w' => cut_calls ks 12 hks w')
  have hssz := cutB_size ks 12
  generalize cutB ks 12 = s at *
  have hsk : s.size ≤ 1000 := by omega
  have HB := Lib.hid h
  have hFl : ∀ k, F k → k < w.heap.size := h.id.1
  have hBl : ∀ k, blockOf B = some k → k < w.heap.size := fun k hk => h.dw.lt hk
  have hdw := h.dw
  obtain ⟨nl, hnl⟩ : ∃ nl, l.length = nl := ⟨_, rfl⟩
  have HNL := Lib.hid hnl
  rw [hnl] at hll hdw ⊢
  have HDW := Lib.hid hdw
  clear h hnl hdw hks hssz
  go_enter Try.func26, Try.ntmps26
  go_upto_region 1 with (fail)
  refine alloc_next3 (cs := [.int .i64 most, .int .i64 life, .slice B nl c]) (ds := [.int .i64 1, .int .i64 cn, .int .i64 nn, .string ks]) (es := [.int .i64 0, .int .i64 0, .slice none 0 0]) ?_
  intro w1 hX hE hR1 hs1 hl1
  have hz1 := hs1.size
  obtain ⟨xb, hxb⟩ : ∃ xb, w.heap.size = xb := ⟨_, rfl⟩
  rw [hxb] at hX hE hR1 hl1 hz1 hFl hBl ⊢
  have HXB := Lib.hid hxb
  clear hxb
  have e3 := hE.cell (i := 3) rfl
  go_upto_region 2 with (go_at_call 15; refine (HCU.out _).mono ?_; rintro e5 w5 ⟨rfl, rfl⟩)
  clear e3 HCU
  have HI1 := Lib.hid (HB.out.id.same hs1)
  have HD1 := Lib.hid (HDW.out.same hs1)
  have e0 := hE.cell (i := 0) rfl
  have e1 := hE.cell (i := 1) rfl
  have x0 := hX.cell (i := 0) rfl
  have x1 := hX.cell (i := 1) rfl
  have x2 := hX.cell (i := 2) rfl
  have HP := Rd.take_calls most life HD1.out (by omega) s
  rw [tl_take] at HP
  have HQ := fun w7 (hs7 : Step (fun _ => False) w1 w7) => Idl.take_calls (HI1.out.same hs7) (by omega) hsk
  generalize takeL l s = r at *
  obtain ⟨q, cc, ok⟩ := r
  simp only [tl_length] at HP HQ
  have HP := Lib.hid HP
  have HQ := Lib.hid HQ
  have hcc : (cc == cc) = true := by simp
  have hok : (ok == ok) = true := by simp
  go_upto_region 8 with (go_at_call 49; refine HP.out.mono ?_; rintro e6 w6 ⟨B6, c6, rfl, hB6, hBf6, hs6⟩)
  refine alloc_next (cs := [.int .i64 most, .int .i64 life, .slice B6 q.length c6]) ?_
  intro w7 hY hs7
  have hs67 := hs6.same hs7
  have hz6 := hs6.size
  have hR7 := hR1.keep hs67 (fun h => h)
  have HB7 := Lib.hid (hB6.same hs7)
  have HQ7 := Lib.hid (HQ.out _ hs67)
  have HST := Lib.hid (hs1.same hs67)
  obtain ⟨yb, hyb⟩ : ∃ yb, w6.heap.size = yb := ⟨_, rfl⟩
  rw [hyb] at hY hz6 ⊢
  clear hyb e0 e1 x0 x1 x2 HP HQ hE hX hR1 hB6 hs6 hs7 hs67 hs1
  go_upto_region 9 with (go_at_call 17; refine HQ7.out.mono ?_; rintro e8 w8 ⟨rfl, hI8, hs8⟩)
  have hY8 := hY.keep hs8 (fun h => by have := hFl _ h; omega)
  have hR8 := hR7.keep hs8 (fun h => by have := hFl _ h; omega)
  have y0 := hY8.cell (i := 0) rfl
  have y1 := hY8.cell (i := 1) rfl
  have y2 := hY8.cell (i := 2) rfl
  have HI8 := Lib.hid hI8
  have hBx : ∀ k, blockOf B6 = some k → k ≠ xb + 1 + 1 ∧ ¬ F k := fun k hk => by
    rcases hBf6 k hk with h | h
    · exact ⟨by have := hBl k h; omega, HB.out.sep k h⟩
    · exact ⟨by omega, fun hF => by have := hFl k hF; omega⟩
  clear hY hR7 hI8
  go_wp2_with (refine wpList_store_blk rfl 57 (.tmp 8) (.tmp 66) rfl hR8 rfl (vs := [.int .i64 most, .int .i64 life, .slice B6 q.length c6]) rfl (by kernel_rfl) rfl (ic3 _ _ _ _ _) ?_; intro w11 hX11 hs11)
  try simp only [Exit.inBlock, Exit.then]
  refine post_ct (cs := [.int .i64 most, .int .i64 life, .slice B6 q.length c6]) rfl rfl hX11 Try.underlying57 rfl (by kernel_rfl) rfl rfl ?_
  have hxw := HXB.out
  exact ⟨F, q, t, B6, c6, rfl, ⟨HI8.out.keep hs11 (fun k hk e => by have := hFl k hk; omega), (HB7.out.keep hs8 (fun k hk => (hBx k hk).2)).keep hs11 (fun k hk e => (hBx k hk).1 e), fun k hk => (hBx k hk).2⟩, by omega, ((HST.out.mono (fun _ _ h => h.elim)).same hs8).trans hs11 (fun j hj e => by omega), fun k hk => .inl hk, fun k hk => (hBf6 k hk).imp id (fun h => by omega)⟩

set_option maxRecDepth 100000 in
set_option maxHeartbeats 4000000 in
theorem do2_calls {w : World} {p : Nat} {F : Nat → Prop} {most life : Int} {l : List On} {t : Nat} {B : Option Addr} {c : Nat} (h : Bo w p F most life l t B c) (ht : t ≤ 10000) (hmost : 0 ≤ most) (hlife : 0 ≤ life ∧ life ≤ 1048576) (cn nn now : Int) (hcn : AgInt.KOk cn) (ks : ByteArray) (hks : ks.size ≤ 9223372036854775807) :
    DoP w p F most life l t B c 2 cn nn now ks := by
  unfold DoP
  have hll := h.id.len_le
  have HCU := Lib.hid (fun w' => cut_calls ks 12 hks w')
  have hssz := cutB_size ks 12
  generalize cutB ks 12 = s at *
  have hsk : s.size ≤ 1000 := by omega
  have HB := Lib.hid h
  have hFl : ∀ k, F k → k < w.heap.size := h.id.1
  have hBl : ∀ k, blockOf B = some k → k < w.heap.size := fun k hk => h.dw.lt hk
  have hdw := h.dw
  obtain ⟨nl, hnl⟩ : ∃ nl, l.length = nl := ⟨_, rfl⟩
  have HNL := Lib.hid hnl
  rw [hnl] at hll hdw ⊢
  have HDW := Lib.hid hdw
  clear h hnl hdw hks hssz
  go_enter Try.func26, Try.ntmps26
  go_upto_region 1 with (fail)
  refine alloc_next3 (cs := [.int .i64 most, .int .i64 life, .slice B nl c]) (ds := [.int .i64 2, .int .i64 cn, .int .i64 nn, .string ks]) (es := [.int .i64 0, .int .i64 0, .slice none 0 0]) ?_
  intro w1 hX hE hR1 hs1 hl1
  have hz1 := hs1.size
  obtain ⟨xb, hxb⟩ : ∃ xb, w.heap.size = xb := ⟨_, rfl⟩
  rw [hxb] at hX hE hR1 hl1 hz1 hFl hBl ⊢
  have HXB := Lib.hid hxb
  clear hxb
  have e3 := hE.cell (i := 3) rfl
  go_upto_region 2 with (go_at_call 15; refine (HCU.out _).mono ?_; rintro e5 w5 ⟨rfl, rfl⟩)
  clear e3 HCU
  have HI1 := Lib.hid (HB.out.id.same hs1)
  have HD1 := Lib.hid (HDW.out.same hs1)
  have e0 := hE.cell (i := 0) rfl
  have e1 := hE.cell (i := 1) rfl
  have x0 := hX.cell (i := 0) rfl
  have x1 := hX.cell (i := 1) rfl
  have x2 := hX.cell (i := 2) rfl
  have HP := Rd.drop_calls most life HD1.out (by omega) cn
  have how := own_drop_len l cn
  rw [HNL.out] at how
  rw [← how, ← tl_drop] at HP
  simp only [tl_length] at HP
  have HQ := Lib.hid (fun w7 (hs7 : Step (fun _ => False) w1 w7) => Idl.drop_calls (HI1.out.same hs7) (by omega) hcn)
  have HP := Lib.hid HP
  clear how
  generalize (ownF l cn).isSome = ob at *
  have hob : (ob == ob) = true := by simp
  go_upto_region 12 with (go_at_call 50; refine HP.out.mono ?_; rintro e6 w6 ⟨B6, c6, rfl, hB6, hBf6', hs6⟩)
  refine alloc_next (cs := [.int .i64 most, .int .i64 life, .slice B6 (dropC l cn).length c6]) ?_
  intro w7 hY hs7
  have hBf6 : ∀ k, blockOf B6 = some k → blockOf B = some k ∨ w1.heap.size ≤ k := fun k hk => .inr (hBf6' k hk)
  have hs67 := hs6.same hs7
  have hz6 := hs6.size
  have hE7 := hE.keep hs67 (fun h => h)
  have hR7 := hR1.keep hs67 (fun h => h)
  have hB7 := hB6.same hs7
  obtain ⟨yb, hyb⟩ : ∃ yb, w6.heap.size = yb := ⟨_, rfl⟩
  rw [hyb] at hY hz6 ⊢
  have HYB := Lib.hid hyb
  clear hyb e0 e1 x0 x1 x2 HP
  have HQ7 := Lib.hid (HQ.out _ hs67.drew)
  have HST := Lib.hid (hs1.same hs67)
  have hq7 : Step F w7 w7.drew := (Step.refl _ _).drew
  have hBx : ∀ k, blockOf B6 = some k → k ≠ xb + 1 + 1 ∧ ¬ F k := fun k hk => by
    rcases hBf6 k hk with h | h
    · exact ⟨by have := hBl k h; omega, HB.out.sep k h⟩
    · exact ⟨by omega, fun hF => by have := hFl k hF; omega⟩
  have HS := Lib.hid (fun w' (hs : Step F w7 w') => (⟨(hY.keep hs (fun h => by have := hFl _ h; omega)).cell (i := 0) rfl, (hY.keep hs (fun h => by have := hFl _ h; omega)).cell (i := 1) rfl, (hY.keep hs (fun h => by have := hFl _ h; omega)).cell (i := 2) rfl, (hE7.keep hs (fun h => by have := hFl _ h; omega)).cell (i := 1) rfl⟩ : w'.cell? ⟨yb, 0, none⟩ = some (.int .i64 most) ∧ w'.cell? ⟨yb, 1, none⟩ = some (.int .i64 life) ∧ w'.cell? ⟨yb, 2, none⟩ = some (.slice B6 (dropC l cn).length c6) ∧ w'.cell? ⟨xb + 1, 1, none⟩ = some (.int .i64 cn)))
  have HR := Lib.hid (fun w' (hs : Step F w7 w') => hR7.keep hs (fun h => by have := hFl _ h; omega))
  have HB7 := Lib.hid (fun w' (hs : Step F w7 w') => hB7.keep hs (fun k hk => (hBx k hk).2))
  have hyx : yb ≠ xb + 1 + 1 := by omega
  have hxy : xb + 1 + 1 ≠ yb := by omega
  clear HQ hE hX hR1 hE7 hR7 hB7 hB6 hs6 hs7 hY hs1 hs67
  go_region_held3 (fun w' => w'.cell? ⟨yb, 0, none⟩ = some (.int .i64 most) ∧ w'.cell? ⟨yb, 1, none⟩ = some (.int .i64 life) ∧ w'.cell? ⟨yb, 2, none⟩ = some (.slice B6 (dropC l cn).length c6) ∧ w'.cell? ⟨xb + 1, 1, none⟩ = some (.int .i64 cn)) (first | exact HS.out _ hq8 | exact HS.out _ hq7 | go_keep)
    ((go_at_call 18; refine HQ7.out.mono ?_; rintro e8 w8 ⟨rfl, hI8, hs8⟩; have hq8 : Step F w7 w8 := hq7.same hs8; have hR9 := HR.out _ hq8; have f0 := hR9.free 0; have f1 := hR9.free 1; have f2 := hR9.free 2; have r0 := hR9.cell (i := 0) rfl; have r1 := hR9.cell (i := 1) rfl; have r2 := hR9.cell (i := 2) rfl))
  all_goals
    obtain ⟨hZ, hsZ⟩ := put3 hR9 (.int .i64 most) (.int .i64 life) (.slice B6 (dropC l cn).length c6)
    have HZ := Lib.hid hZ
    have HSZ := Lib.hid hsZ
    clear hZ hsZ
    go_wp2
    try simp only [Exit.inBlock, Exit.then]
    refine post_ct (cs := [.int .i64 most, .int .i64 life, .slice B6 (dropC l cn).length c6]) rfl rfl HZ.out Try.underlying57 rfl (by kernel_rfl) rfl rfl ?_
    have hxw := HXB.out
    exact ⟨F, dropC l cn, t, B6, c6, by first | rfl | simp, ⟨hI8.keep HSZ.out (fun k hk e => by have := hFl k hk; omega), (HB7.out _ hq8).keep HSZ.out (fun k hk e => (hBx k hk).1 e), fun k hk => (hBx k hk).2⟩, by omega, ((HST.out.mono (fun _ _ h => h.elim)).same hq8).trans HSZ.out (fun j hj e => by omega), fun k hk => .inl hk, fun k hk => (hBf6 k hk).imp id (fun h => by omega)⟩

set_option maxRecDepth 100000 in
set_option maxHeartbeats 4000000 in
theorem do3_calls {w : World} {p : Nat} {F : Nat → Prop} {most life : Int} {l : List On} {t : Nat} {B : Option Addr} {c : Nat} (h : Bo w p F most life l t B c) (ht : t ≤ 10000) (hmost : 0 ≤ most) (hlife : 0 ≤ life ∧ life ≤ 1048576) (cn nn now : Int) (hcn : AgInt.KOk cn) (ks : ByteArray) (hks : ks.size ≤ 9223372036854775807) :
    DoP w p F most life l t B c 3 cn nn now ks := by
  unfold DoP
  have hll := h.id.len_le
  have HCU := Lib.hid (fun w' => cut_calls ks 12 hks w')
  have hssz := cutB_size ks 12
  generalize cutB ks 12 = s at *
  have hsk : s.size ≤ 1000 := by omega
  have HB := Lib.hid h
  have hFl : ∀ k, F k → k < w.heap.size := h.id.1
  have hBl : ∀ k, blockOf B = some k → k < w.heap.size := fun k hk => h.dw.lt hk
  have hdw := h.dw
  obtain ⟨nl, hnl⟩ : ∃ nl, l.length = nl := ⟨_, rfl⟩
  have HNL := Lib.hid hnl
  rw [hnl] at hll hdw ⊢
  have HDW := Lib.hid hdw
  clear h hnl hdw hks hssz
  go_enter Try.func26, Try.ntmps26
  go_upto_region 1 with (fail)
  refine alloc_next3 (cs := [.int .i64 most, .int .i64 life, .slice B nl c]) (ds := [.int .i64 3, .int .i64 cn, .int .i64 nn, .string ks]) (es := [.int .i64 0, .int .i64 0, .slice none 0 0]) ?_
  intro w1 hX hE hR1 hs1 hl1
  have hz1 := hs1.size
  obtain ⟨xb, hxb⟩ : ∃ xb, w.heap.size = xb := ⟨_, rfl⟩
  rw [hxb] at hX hE hR1 hl1 hz1 hFl hBl ⊢
  have HXB := Lib.hid hxb
  clear hxb
  have e3 := hE.cell (i := 3) rfl
  go_upto_region 2 with (go_at_call 15; refine (HCU.out _).mono ?_; rintro e5 w5 ⟨rfl, rfl⟩)
  clear e3 HCU
  have HI1 := Lib.hid (HB.out.id.same hs1)
  have HD1 := Lib.hid (HDW.out.same hs1)
  have e0 := hE.cell (i := 0) rfl
  have e1 := hE.cell (i := 1) rfl
  have x0 := hX.cell (i := 0) rfl
  have x1 := hX.cell (i := 1) rfl
  have x2 := hX.cell (i := 2) rfl
  have HP := Rd.of_calls most life HD1.out (by omega) s
  rw [tl_of] at HP
  have HP := Lib.hid HP
  have hol := stack_le l s
  rw [HNL.out] at hol
  have HQ := Lib.hid (fun w7 (hs7 : Step (fun _ => False) w1 w7) => Idl.clear_calls (HI1.out.same hs7) (by omega) hsk)
  obtain ⟨q, hq⟩ : ∃ q, stackOf l s = q := ⟨_, rfl⟩
  rw [hq] at HP hol
  simp only [hq] at HQ
  clear hq
  obtain ⟨nq, hnq⟩ : ∃ nq, q.length = nq := ⟨_, rfl⟩
  rw [hnq] at HP hol
  simp only [hnq] at HQ
  have HNQ := Lib.hid hnq
  clear hnq
  go_upto_region 15 with (go_at_call 51; refine HP.out.mono ?_; rintro e6 w6 ⟨O6, d6, rfl, hO6, hOf6, hs6⟩)
  have hX6 := hX.keep hs6 (fun h => h)
  clear x0 x1 x2
  have x0 := hX6.cell (i := 0) rfl
  have x1 := hX6.cell (i := 1) rfl
  have x2 := hX6.cell (i := 2) rfl
  go_upto_region 16 with (fail)
  refine alloc_next (cs := [.int .i64 most, .int .i64 life, .slice B nl c]) ?_
  intro w7 hY hs7
  have hs67 := hs6.same hs7
  have hz6 := hs6.size
  have hR7 := hR1.keep hs67 (fun h => h)
  have hO7 := hO6.keep hs7 (fun _ _ h => h)
  have hB7 := HD1.out.same hs67
  obtain ⟨yb, hyb⟩ : ∃ yb, w6.heap.size = yb := ⟨_, rfl⟩
  rw [hyb] at hY hz6 ⊢
  have hz7 := hY.lt
  have HR7 := Lib.hid hR7
  have HO7 := Lib.hid hO7
  have HOL := Lib.hid (fun k (hk : blockOf O6 = some k) => (by have := hO6.lt hk; omega : k < yb))
  have HQ7 := Lib.hid (fun w' (hs : Step (fun _ => False) w1 w') => HQ.out _ hs)
  have HST := Lib.hid (hs1.same hs67)
  have HS17 := Lib.hid hs67
  clear hyb e0 e1 x0 x1 x2 HP HQ hE hX hX6 hR1 hR7 hO7 hO6 hs6 hs7 hs67 hs1
  go_wp2
  go_loopw [23, 99] (fun v23 v99 wr => ∃ (i : Nat) (l' : List On) (B6 : Option Addr) (c6 : Nat), v99 = .int .i64 (i : Int) ∧ i ≤ nq ∧ l' = (q.take i).foldl dropC l ∧ l'.length ≤ nl ∧ DW wr B6 l'.length c6 (tl l') ∧ (∀ k, blockOf B6 = some k → k ≠ yb ∧ (blockOf B = some k ∨ w1.heap.size ≤ k)) ∧ Blk wr yb 57 [.int .i64 most, .int .i64 life, .slice B6 l'.length c6] ∧ Step (fun k => k = yb) w7 wr) (fun _ v _ => nq - (intOf v).toNat)
  case atStart => exact ⟨0, l, B, c, rfl, Nat.zero_le _, rfl, by rw [HNL.out]; exact Nat.le_refl _, by rw [HNL.out]; exact hB7, fun k hk => ⟨by have := hBl k hk; omega, .inl hk⟩, by rw [HNL.out]; exact hY, Step.refl _ _⟩
  case round =>
    clear hB7 hY
    obtain ⟨i, l', B6, c6, rfl, hi, hl', hlen, hB, hBf, hY, hst⟩ := hrel
    have HL' := Lib.hid hl'
    obtain ⟨n', hn'⟩ : ∃ n', l'.length = n' := ⟨_, rfl⟩
    rw [hn'] at hlen hB hY
    have HN' := Lib.hid hn'
    clear hl' hn'
    by_cases hin : i < nq
    · have hin' : ((i : Int) < (nq : Int)) := by omega
      have hO := HO7.out.keep hst (fun k hk e => by have := HOL.out k hk; omega)
      obtain ⟨g, rfl⟩ := hO.one hin
      obtain ⟨x, hx⟩ : ∃ x, q[i]? = some x := ⟨_, List.getElem?_eq_getElem (by rw [HNQ.out]; exact hin)⟩
      have d0 := hO.cell hx
      have HTK : Hid (dropC l' x = (q.take (i + 1)).foldl dropC l) := Lib.hid (by rw [List.take_add_one, hx, List.foldl_append, HL'.out]; rfl)
      have hdc : (dropC l' x).length ≤ n' := by rw [← HN'.out]; exact List.length_filter_le _ _
      have HD := Rd.drop_calls most life hB (by omega) x
      rw [← tl_drop] at HD
      simp only [tl_length] at HD
      have HD := Lib.hid HD
      have y0 := hY.cell (i := 0) rfl
      have y1 := hY.cell (i := 1) rfl
      have y2 := hY.cell (i := 2) rfl
      clear hO hx hB
      go_upto_region 20 with (first | (go_at_call 50; refine HD.out.mono ?_; rintro e10 w10 ⟨B10, c10, rfl, hB10, hB10f, hs10⟩) | (refine wpList_store_blk rfl 57 (.tmp 21) (.tmp 107) rfl (hY.keep hs10 (fun h => h)) rfl (vs := [.int .i64 most, .int .i64 life, .slice B10 (dropC l' x).length c10]) rfl (by kernel_rfl) rfl (ic3 _ _ _ _ _) ?_; intro w11 hX11 hs11))
      have hzr := hst.size
      have hyl := hY.lt
      clear y0 y1 y2 d0
      go_wp2
      go_roundw
      case rel => exact ⟨i + 1, dropC l' x, B10, c10, by go_num, by omega, HTK.out, by omega, hB10.keep hs11 (fun k hk e => by have := hB10f k hk; omega), fun k hk => by have := hB10f k hk; exact ⟨by omega, .inr (by omega)⟩, hX11, (hst.same (hs10.mono (fun _ _ h => h.elim))).same hs11⟩
      case measure => simp [intOf]; omega
    · obtain rfl : i = nq := by omega
      have hin' : ¬ ((i : Int) < (i : Int)) := by omega
      have HLE : Hid (l' = q.foldl dropC l) := Lib.hid (by rw [HL'.out, List.take_of_length_le (by rw [HNQ.out]; exact Nat.le_refl _)])
      have hR7 := HR7.out.keep hst (fun e => by omega)
      have hO7 := HO7.out.keep hst (fun k hk e => by have := HOL.out k hk; omega)
      have hbl : ∀ k, blockOf B6 = some k → k ≠ xb + 1 + 1 ∧ ¬ F k := fun k hk => by
        rcases (hBf k hk).2 with h | h
        · exact ⟨by have := hBl k h; omega, HB.out.sep k h⟩
        · exact ⟨by omega, fun hF => by have := hFl k hF; omega⟩
      have hq7 : Step F wr wr.drew := (Step.refl _ _).drew
      have hw1r : Step (fun _ => False) w1 wr := HS17.out.trans hst (fun j hj e => by omega)
      have HQ8 := HQ7.out _ hw1r.drew
      rw [← HLE.out] at HQ8
      have HQ8 := Lib.hid HQ8
      have HS := Lib.hid (fun w' (hs : Step F wr w') => (⟨(hY.keep hs (fun h => by have := hFl _ h; omega)).cell (i := 0) rfl, (hY.keep hs (fun h => by have := hFl _ h; omega)).cell (i := 1) rfl, (hY.keep hs (fun h => by have := hFl _ h; omega)).cell (i := 2) rfl⟩ : w'.cell? ⟨yb, 0, none⟩ = some (.int .i64 most) ∧ w'.cell? ⟨yb, 1, none⟩ = some (.int .i64 life) ∧ w'.cell? ⟨yb, 2, none⟩ = some (.slice B6 n' c6)))
      have HR := Lib.hid (fun w' (hs : Step F wr w') => hR7.keep hs (fun h => by have := hFl _ h; omega))
      have HB8 := Lib.hid (fun w' (hs : Step F wr w') => hB.keep hs (fun k hk => (hbl k hk).2))
      have HO8 := Lib.hid (fun w' (hs : Step F wr w') => hO7.keep hs (fun k hk h => by have := hFl _ h; have := hOf6 k hk; omega))
      have HWL := Lib.hid ((HST.out.mono (fun _ _ h => h.elim)).trans hst (fun j hj e => by have := HXB.out; omega) : Step F w wr)
      have hyx : yb ≠ xb + 1 + 1 := by omega
      have hxy : xb + 1 + 1 ≠ yb := by omega
      clear hR7 hO7 hY hB hst hw1r
      go_upto_region 21 with (fail)
      go_region_held3 (fun w' => w'.cell? ⟨yb, 0, none⟩ = some (.int .i64 most) ∧ w'.cell? ⟨yb, 1, none⟩ = some (.int .i64 life) ∧ w'.cell? ⟨yb, 2, none⟩ = some (.slice B6 n' c6)) (first | exact HS.out _ hq9 | exact HS.out _ hq8 | exact HS.out _ hq7 | go_keep)
        ((first | (go_at_call 52; refine HQ8.out.mono ?_; rintro e8 w8 ⟨A8, c8, rfl, hA8, hA8f, hI8, hs8⟩; have hq8 : Step F wr w8 := hq7.same hs8) | (go_at_call 36; refine (num_same hA8 (HO8.out _ hq8) (by omega)).mono ?_; rintro e9 w9 ⟨rfl, hs9⟩; have hq9 : Step F wr w9 := hq8.same (hs9.mono (fun _ _ h => h.elim)); have hR9 := HR.out _ hq9; have f0 := hR9.free 0; have f1 := hR9.free 1; have f2 := hR9.free 2; have r0 := hR9.cell (i := 0) rfl; have r1 := hR9.cell (i := 1) rfl; have r2 := hR9.cell (i := 2) rfl)))
      all_goals
        obtain ⟨hZ, hsZ⟩ := put3 hR9 (.int .i64 most) (.int .i64 life) (.slice B6 n' c6)
        have HZ := Lib.hid hZ
        have HSZ := Lib.hid hsZ
        clear hZ hsZ
        go_wp2
        try simp only [Exit.inBlock, Exit.then]
        refine post_ct (cs := [.int .i64 most, .int .i64 life, .slice B6 n' c6]) rfl rfl HZ.out Try.underlying57 rfl (by kernel_rfl) rfl rfl ?_
        have hxw := HXB.out
        have hn' := HN'.out
        exact ⟨F, l', t, B6, c6, by rw [hn']; rfl, ⟨(hI8.same hs9).keep HSZ.out (fun k hk e => by have := hFl k hk; omega), by rw [hn']; exact (HB8.out _ hq9).keep HSZ.out (fun k hk e => (hbl k hk).1 e), fun k hk => (hbl k hk).2⟩, by omega, (HWL.out.same hq9).trans HSZ.out (fun j hj e => by omega), fun k hk => .inl hk, fun k hk => (hBf k hk).2.imp id (fun h => by omega)⟩

set_option maxRecDepth 100000 in
set_option maxHeartbeats 4000000 in
theorem do4_calls {w : World} {p : Nat} {F : Nat → Prop} {most life : Int} {l : List On} {t : Nat} {B : Option Addr} {c : Nat} (h : Bo w p F most life l t B c) (ht : t ≤ 10000) (hmost : 0 ≤ most) (hlife : 0 ≤ life ∧ life ≤ 1048576) (kd cn nn now : Int) (hcn : AgInt.KOk cn) (ks : ByteArray) (hks : ks.size ≤ 9223372036854775807) (k0 : ¬ kd = 0) (k1 : ¬ kd = 1) (k2 : ¬ kd = 2) (k3 : ¬ kd = 3) :
    DoP w p F most life l t B c kd cn nn now ks := by
  unfold DoP
  have hll := h.id.len_le
  have HCU := Lib.hid (fun w' => cut_calls ks 12 hks w')
  have hssz := cutB_size ks 12
  generalize cutB ks 12 = s at *
  have hsk : s.size ≤ 1000 := by omega
  have HB := Lib.hid h
  have hFl : ∀ k, F k → k < w.heap.size := h.id.1
  have hBl : ∀ k, blockOf B = some k → k < w.heap.size := fun k hk => h.dw.lt hk
  have hdw := h.dw
  obtain ⟨nl, hnl⟩ : ∃ nl, l.length = nl := ⟨_, rfl⟩
  have HNL := Lib.hid hnl
  rw [hnl] at hll hdw ⊢
  have HDW := Lib.hid hdw
  clear h hnl hdw hks hssz
  go_enter Try.func26, Try.ntmps26
  go_upto_region 1 with (fail)
  refine alloc_next3 (cs := [.int .i64 most, .int .i64 life, .slice B nl c]) (ds := [.int .i64 kd, .int .i64 cn, .int .i64 nn, .string ks]) (es := [.int .i64 0, .int .i64 0, .slice none 0 0]) ?_
  intro w1 hX hE hR1 hs1 hl1
  have hz1 := hs1.size
  obtain ⟨xb, hxb⟩ : ∃ xb, w.heap.size = xb := ⟨_, rfl⟩
  rw [hxb] at hX hE hR1 hl1 hz1 hFl hBl ⊢
  have HXB := Lib.hid hxb
  clear hxb
  have e3 := hE.cell (i := 3) rfl
  go_upto_region 2 with (go_at_call 15; refine (HCU.out _).mono ?_; rintro e5 w5 ⟨rfl, rfl⟩)
  clear e3 HCU
  have HI1 := Lib.hid (HB.out.id.same hs1)
  have HD1 := Lib.hid (HDW.out.same hs1)
  have e0 := hE.cell (i := 0) rfl
  have e1 := hE.cell (i := 1) rfl
  have x0 := hX.cell (i := 0) rfl
  have x1 := hX.cell (i := 1) rfl
  have x2 := hX.cell (i := 2) rfl
  have q0 : (kd == 0) = false := by simp [k0]
  have q1 : (kd == 1) = false := by simp [k1]
  have q2 : (kd == 2) = false := by simp [k2]
  have q3 : (kd == 3) = false := by simp [k3]
  have HP := Rd.expire_calls most life HD1.out (by omega) now
  have HQ := fun w7 (hs7 : Step (fun _ => False) w1 w7) => Idl.expire_calls (HI1.out.same hs7) (by omega) now
  have hol := expD_out (tl l) now
  rw [tl_length, HNL.out] at hol
  generalize expD (tl l) now = r at *
  obtain ⟨q, o⟩ := r
  simp only at HP HQ hol
  have HP := Lib.hid HP
  have HQ := Lib.hid HQ
  clear k0 k1 k2 k3
  go_upto_region 23 with (go_at_call 53; refine HP.out.mono ?_; rintro e6 w6 ⟨B6, c6, O6, d6, rfl, hB6, hO6, hBf6, hOf6, hs6⟩)
  refine alloc_next (cs := [.int .i64 most, .int .i64 life, .slice B6 q.length c6]) ?_
  intro w7 hY hs7
  have hs67 := hs6.same hs7
  have hz6 := hs6.size
  have hE7 := hE.keep hs67 (fun h => h)
  have hR7 := hR1.keep hs67 (fun h => h)
  have hB7 := hB6.same hs7
  obtain ⟨yb, hyb⟩ : ∃ yb, w6.heap.size = yb := ⟨_, rfl⟩
  rw [hyb] at hY hz6 ⊢
  have HYB := Lib.hid hyb
  clear hyb e0 e1 x0 x1 x2 HP
  have hO7 := hO6.keep hs7 (fun _ _ h => h)
  have HQ7 := Lib.hid (HQ.out _ hs67.drew)
  have HST := Lib.hid (hs1.same hs67)
  have hq7 : Step F w7 w7.drew := (Step.refl _ _).drew
  have hBx : ∀ k, blockOf B6 = some k → k ≠ xb + 1 + 1 ∧ ¬ F k := fun k hk => by
    rcases hBf6 k hk with h | h
    · exact ⟨by have := hBl k h; omega, HB.out.sep k h⟩
    · exact ⟨by omega, fun hF => by have := hFl k hF; omega⟩
  have HS := Lib.hid (fun w' (hs : Step F w7 w') => (⟨(hY.keep hs (fun h => by have := hFl _ h; omega)).cell (i := 0) rfl, (hY.keep hs (fun h => by have := hFl _ h; omega)).cell (i := 1) rfl, (hY.keep hs (fun h => by have := hFl _ h; omega)).cell (i := 2) rfl⟩ : w'.cell? ⟨yb, 0, none⟩ = some (.int .i64 most) ∧ w'.cell? ⟨yb, 1, none⟩ = some (.int .i64 life) ∧ w'.cell? ⟨yb, 2, none⟩ = some (.slice B6 q.length c6)))
  have HR := Lib.hid (fun w' (hs : Step F w7 w') => hR7.keep hs (fun h => by have := hFl _ h; omega))
  have HB7 := Lib.hid (fun w' (hs : Step F w7 w') => hB7.keep hs (fun k hk => (hBx k hk).2))
  have hyx : yb ≠ xb + 1 + 1 := by omega
  have hxy : xb + 1 + 1 ≠ yb := by omega
  have HO7 := Lib.hid (fun w' (hs : Step F w7 w') => hO7.keep hs (fun k hk h => by have := hFl _ h; have := hOf6 k hk; omega))
  clear HQ hE hX hR1 hE7 hR7 hO7 hB7 hB6 hO6 hs6 hs7 hY hs1 hs67 q0 q1 q2 q3
  go_region_held3 (fun w' => w'.cell? ⟨yb, 0, none⟩ = some (.int .i64 most) ∧ w'.cell? ⟨yb, 1, none⟩ = some (.int .i64 life) ∧ w'.cell? ⟨yb, 2, none⟩ = some (.slice B6 q.length c6)) (first | exact HS.out _ hq9 | exact HS.out _ hq8 | exact HS.out _ hq7 | go_keep)
    ((first | (go_at_call 54; refine HQ7.out.mono ?_; rintro e8 w8 ⟨A8, c8, l8, rfl, hA8, hA8f, hl8, hI8, hs8⟩; have hq8 : Step F w7 w8 := hq7.same hs8) | (go_at_call 36; refine (num_same hA8 (HO7.out _ hq8) (by omega)).mono ?_; rintro e9 w9 ⟨rfl, hs9⟩; have hq9 : Step F w7 w9 := hq8.same (hs9.mono (fun _ _ h => h.elim)); have hR9 := HR.out _ hq9; have f0 := hR9.free 0; have f1 := hR9.free 1; have f2 := hR9.free 2; have r0 := hR9.cell (i := 0) rfl; have r1 := hR9.cell (i := 1) rfl; have r2 := hR9.cell (i := 2) rfl)))
  all_goals
    obtain ⟨hZ, hsZ⟩ := put3 hR9 (.int .i64 most) (.int .i64 life) (.slice B6 q.length c6)
    have HZ := Lib.hid hZ
    have HSZ := Lib.hid hsZ
    clear hZ hsZ
    go_wp2
    try simp only [Exit.inBlock, Exit.then]
    refine post_ct (cs := [.int .i64 most, .int .i64 life, .slice B6 q.length c6]) rfl rfl HZ.out Try.underlying57 rfl (by kernel_rfl) rfl rfl ?_
    have hxw := HXB.out
    have hlq : q.length = l8.length := by rw [← hl8, tl_length]
    exact ⟨F, l8, t, B6, c6, by rw [← hlq]; rfl, ⟨(hI8.same hs9).keep HSZ.out (fun k hk e => by have := hFl k hk; omega), by rw [← hlq, hl8]; exact (HB7.out _ hq9).keep HSZ.out (fun k hk e => (hBx k hk).1 e), fun k hk => (hBx k hk).2⟩, by omega, ((HST.out.mono (fun _ _ h => h.elim)).same hq9).trans HSZ.out (fun j hj e => by omega), fun k hk => .inl hk, fun k hk => (hBf6 k hk).imp id (fun h => by omega)⟩

theorem do_calls {w : World} {p : Nat} {F : Nat → Prop} {most life : Int} {l : List On} {t : Nat} {B : Option Addr} {c : Nat} (h : Bo w p F most life l t B c) (ht : t ≤ 10000) (hmost : 0 ≤ most) (hlife : 0 ≤ life ∧ life ≤ 1048576) (kd cn nn now : Int) (hcn : AgInt.KOk cn) (ks : ByteArray) (hks : ks.size ≤ 9223372036854775807) :
    DoP w p F most life l t B c kd cn nn now ks := by
  by_cases k0 : kd = 0
  · subst k0; exact do0_calls h ht hmost hlife cn nn now hcn ks hks
  by_cases k1 : kd = 1
  · subst k1; exact do1_calls h ht hmost hlife cn nn now hcn ks hks
  by_cases k2 : kd = 2
  · subst k2; exact do2_calls h ht hmost hlife cn nn now hcn ks hks
  by_cases k3 : kd = 3
  · subst k3; exact do3_calls h ht hmost hlife cn nn now hcn ks hks
  exact do4_calls h ht hmost hlife kd cn nn now hcn ks hks k0 k1 k2 k3
end Go.Proofs.Ytgohlbljdffelaa.Idl
