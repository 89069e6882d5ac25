/- the document's health: Run. Own work of this seat; no condition but on lengths and numbers. -/
import Derived.Test.YtghiklaeenhljaaHeD7
namespace Go.Proofs.Ytghiklaeenhljaa.HeD
open Go.RowKit Go.Proofs.Ytghiklaeenhljaa.Kit Go.Proofs.Ytghiklaeenhljaa.It Go.Proofs.Ytghiklaeenhljaa.Hea Go.Proofs.YtghiklaeenhljaaW.PrintWords Go.Proofs.Ytghiklaeenhljaa
set_option linter.unusedVariables false
set_option linter.unusedSimpArgs false

theorem i0dev : ∃ i, Try.prog.info? 135 = some i ∧ i.zero = some (.agg #[.int .i64 0, .string ⟨#[]⟩, .int .i64 0]) ∧ i.size = 3 ∧ i.bytes = 32 := by
  obtain ⟨i, hi, hp⟩ := Option.map_eq_some_iff.1 (by kernel_rfl : (Try.prog.info? 135).map (fun i => (i.zero, i.size, i.bytes)) = some (some (.agg #[.int .i64 0, .string ⟨#[]⟩, .int .i64 0]), 3, 32))
  simp only [Prod.mk.injEq] at hp
  exact ⟨i, hi, hp⟩
theorem DSeg.lt {w : World} {A : Option Addr} {n c : Nat} {l : List Evn} (h : DSeg w A n c l) {j : Nat} (hj : blockOf A = some j) : j < w.heap.size := FSeg.lt h hj
/-- Events behind events. -/
theorem run_app_d {w : World} {A B : Option Addr} {n c m cB : Nat} {l r : List Evn} (h : DSeg w A n c l) (k : DSeg w B m cB r) (hne : A ≠ none ∨ r ≠ []) (hb : n + m ≤ 1000000) :
    ∃ A' c' w', (Builtin.append_ #[97, 97] 97 #[.slice A n c, .slice B m cB]).run Try.prog w = .ok (.slice A' (n + m) c') w' ∧ DSeg w' A' (n + m) c' (l ++ r) ∧ Step (fun k => blockOf A = some k) w w' ∧ (blockOf A' = blockOf A ∨ ∃ k, blockOf A' = some k ∧ w.heap.size ≤ k) := by
  obtain ⟨i0, hi0, hz0, hs0, hy0⟩ := i0dev
  have hml := k.len
  obtain ⟨hl, ⟨rfl, rfl, rfl, h0⟩ | ⟨g, cur, rfl, hg, hle, hsz, hcell⟩⟩ := k
  · obtain rfl : r = [] := List.eq_nil_of_length_eq_zero hml
    have hA : A ≠ none := hne.elim id (fun h => absurd rfl h)
    obtain ⟨_, ⟨rfl, _⟩ | ⟨g, cur, rfl, _, hle, _⟩⟩ := id h
    · exact absurd rfl hA
    refine ⟨_, c, w, ?_, by rw [List.append_nil, Nat.add_zero]; exact h, Step.refl _ _, .inl rfl⟩
    have hf : (Builtin.firstCells 3 0 (.slice none 0 0)).run Try.prog w = .ok #[] w := by simp [Builtin.firstCells]
    have hst : (storeCells ((⟨g, 0, none⟩ : Addr).add (n * 3)) []).run Try.prog w = .ok () w := by simp [storeCells]
    simp [Builtin.append_, run_underlying Try.underlying97, sizeOf, typeInfo, hi0, hs0, Builtin.lenOf, hle, hf, hst]
  · have hm0 : A = none → 0 < m := fun e => by
      rcases hne with h | h
      · exact absurd e h
      · have := List.length_pos_iff.2 h; omega
    obtain ⟨A', c', w', h1, h2, h3, h4⟩ := run_append_flat (P := Try.prog) (cB := cB) w 97 97 135 i0 _ 3 32 Try.underlying97 hi0 hz0 rfl hs0 hy0 (by omega) h (m := m) (r := evcs r) (aB := ⟨g, 0, none⟩) hl hm0 (evcs_one r) (fun j v hj => by rw [addr_add', Nat.zero_add]; simp [World.cell?, hg, hcell j v hj]) hb
    exact ⟨A', c', w', h1, by unfold DSeg; rw [evcs_append]; exact h2, h3, h4⟩

theorem evc_cell (x : Evn) : ∀ v ∈ evc x, v.oneCell' = true := by
  intro v hv
  simp only [evc, List.mem_cons, List.not_mem_nil, or_false] at hv
  rcases hv with rfl | rfl | rfl <;> rfl
theorem app_ev_step {w1 : World} {B : Option Addr} {m cB : Nat} {l : List Evn} (hB : DSeg w1 B m cB l) (hb : m + 1 ≤ 1000000) (o : Evn) :
    ∃ B' c' w', (Builtin.append_ #[97, 97] 97 #[.slice B m cB, .slice (some ⟨w1.heap.size, 0, none⟩) 1 1]).run Try.prog (w1.alloc (.cells #[.int .i64 o.kind, .string o.name, .int .i64 o.tm] 135)) = .ok (.slice B' (m + 1) c') w' ∧
      DSeg w' B' (m + 1) c' (l ++ [o]) ∧ (∀ k, blockOf B' = some k → blockOf B = some k ∨ w1.heap.size ≤ k) ∧ Step (fun k => blockOf B = some k) w1 w' := by
  obtain ⟨i0, hi0, hz0, hs0, hy0⟩ := i0dev
  have hal : Step (fun _ => False) w1 (w1.alloc (.cells #[.int .i64 o.kind, .string o.name, .int .i64 o.tm] 135)) := (Step.refl _ _).alloc _
  obtain ⟨B5, c5, w5, hap, hB6, hs5, hn5⟩ := run_app_one (k := 3) (v := evc o) 97 135 Try.underlying97 hi0 hz0 rfl hs0 hy0 (by omega) (hB.keep hal (fun _ _ h => h)) rfl (evc_cell o) (blk_new w1 (evc o) 135) hb
  have hz6 := hal.size
  refine ⟨B5, c5, w5, hap, by unfold DSeg; rw [evcs_append]; exact hB6, fun k hk => ?_, (hal.mono (fun _ _ h => h.elim)).same hs5⟩
  rcases hn5 with e | ⟨j, e, hj⟩
  · exact .inl (e ▸ hk)
  · rw [hk] at e
    obtain rfl := Option.some.inj e
    exact .inr (by omega)

structure Dd where
  l : List Oe
  ts : List It
  ep : Int
  ev : List Evn
/-- One thing done. -/
def dstep (c : Cf) (S : Dd) (s : It) (r : List It) : Dd :=
  if ((getO S.l s.key).getD zOe).waits = true then ⟨putO S.l ⟨s.key, (resP ((getO S.l s.key).getD zOe).pb c false s.tm).1, false⟩, timI r s.key (s.tm + c.every), if (resP ((getO S.l s.key).getD zOe).pb c false s.tm).2 then S.ep + 1 else S.ep, S.ev ++ [⟨2, s.key, s.tm⟩] ++ resE (resP ((getO S.l s.key).getD zOe).pb c false s.tm) s.key s.tm⟩
  else ⟨putO S.l ⟨((getO S.l s.key).getD zOe).nm, ((getO S.l s.key).getD zOe).pb, true⟩, timI r s.key (s.tm + c.wait), S.ep, S.ev ++ [⟨1, s.key, s.tm⟩]⟩
inductive RunsD (c : Cf) (now : Int) : Dd → Dd → Prop
  | stop (S : Dd) (h : ∀ x ∈ S.ts.head?, now < x.tm) : RunsD c now S S
  | step (S R : Dd) (s : It) (r : List It) (e : S.ts = s :: r) (h : ¬ now < s.tm) (hp : PbOk ((getO S.l s.key).getD zOe).pb) (ht : 0 ≤ s.tm ∧ s.tm ≤ 1099511627776) (hb : S.l.length ≤ 1000 ∧ S.ts.length ≤ 1000 ∧ (0 ≤ S.ep ∧ S.ep ≤ 1000000)) (k : RunsD c now (dstep c S s r) R) : RunsD c now S R
theorem dstep_ev (c : Cf) (S : Dd) (s : It) (r : List It) : S.ev.length + 1 ≤ (dstep c S s r).ev.length := by
  unfold dstep
  split <;> simp <;> omega
theorem RunsD.ev_le {c : Cf} {now : Int} {S R : Dd} (h : RunsD c now S R) : S.ev.length ≤ R.ev.length := by
  induction h with
  | stop S h => exact Nat.le_refl _
  | step S R s r e h hp ht hb k ih => have := dstep_ev c S s r; omega
theorem RunsD.cases' {c : Cf} {now : Int} {S R : Dd} (h : RunsD c now S R) : (R = S ∧ ∀ x ∈ S.ts.head?, now < x.tm) ∨ ∃ s r, S.ts = s :: r ∧ ¬ now < s.tm ∧ PbOk ((getO S.l s.key).getD zOe).pb ∧ (0 ≤ s.tm ∧ s.tm ≤ 1099511627776) ∧ (S.l.length ≤ 1000 ∧ S.ts.length ≤ 1000 ∧ (0 ≤ S.ep ∧ S.ep ≤ 1000000)) ∧ RunsD c now (dstep c S s r) R := by
  cases h with
  | stop S h => exact .inl ⟨rfl, h⟩
  | step S R s r e h hp ht hb k => exact .inr ⟨s, r, e, h, hp, ht, hb, k⟩
/-- What the document's Run keeps in memory. -/
structure DM (w : World) (wb xb : Nat) (c : Cf) (A : Option Addr) (n cA : Nat) (B : Option Addr) (m cB : Nat) (E : Option Addr) (q cE : Nat) (S : Dd) : Prop where
  hx : Blk w xb 60 [.int .i64 c.every, .int .i64 c.wait, .int .i64 c.rise, .int .i64 c.fall, .slice A n cA, .slice B m cB, .int .i64 S.ep]
  hz : Blk w (xb + 1) 60 [.int .i64 0, .int .i64 0, .int .i64 0, .int .i64 0, .slice none 0 0, .slice none 0 0, .int .i64 0]
  hA : ORd w A n S.l
  hB : IRd w B m S.ts
  le : m ≤ cB
  hE : DSeg w E q cE S.ev
  fe : ∀ k, blockOf E = some k → xb + 1 < k ∧ blockOf A ≠ some k ∧ blockOf B ≠ some k
  lt : (∀ k, blockOf A = some k → k < w.heap.size) ∧ (∀ k, blockOf B = some k → k < w.heap.size)
  fa : (∀ k, blockOf A = some k → k ≠ xb ∧ k ≠ xb + 1) ∧ (∀ k, blockOf B = some k → k ≠ xb ∧ k ≠ xb + 1)

set_option maxRecDepth 100000 in
set_option maxHeartbeats 8000000 in
theorem drun_calls {w : World} {A B : Option Addr} {n cA m cB : Nat} {l : List Oe} {ts : List It} (hA : ORd w A n l) (hB : IRd w B m ts) (hmc : m ≤ cB) (hal : ∀ k, blockOf A = some k → k < w.heap.size) (hbl : ∀ k, blockOf B = some k → k < w.heap.size) {c : Cf} (hc : CfOk c) (ep : Int) (now : Int) {R : Dd} (hR : RunsD c now ⟨l, ts, ep, []⟩ R) (hev : R.ev.length ≤ 100000) (hn : n ≤ 1000 ∧ m ≤ 1000) :
    Calls Try.prog 44 #[.agg #[.int .i64 c.every, .int .i64 c.wait, .int .i64 c.rise, .int .i64 c.fall, .slice A n cA, .slice B m cB, .int .i64 ep], .int .i64 now] w fun e w' => ∃ A' cA' B' cB' E cE,
      e = .returned (.tuple #[.agg #[.int .i64 c.every, .int .i64 c.wait, .int .i64 c.rise, .int .i64 c.fall, .slice A' R.l.length cA', .slice B' R.ts.length cB', .int .i64 R.ep], .slice E R.ev.length cE]) ∧
      ORd w' A' R.l.length R.l ∧ IRd w' B' R.ts.length R.ts ∧ R.ts.length ≤ cB' ∧ DSeg w' E R.ev.length cE R.ev ∧ (∀ k, blockOf A' = some k → k < w'.heap.size) ∧ (∀ k, blockOf B' = some k → k < w'.heap.size) ∧
      (∀ k, blockOf A' = some k → blockOf A = some k ∨ w.heap.size ≤ k) ∧ (∀ k, blockOf B' = some k → blockOf B = some k ∨ w.heap.size ≤ k) ∧ (∀ k, blockOf E = some k → w.heap.size ≤ k) ∧ Step (fun _ => False) w w' := by
  have HAL := Lib.hid hal
  have HBL := Lib.hid hbl
  have HRR := Lib.hid hR
  have hce := hc.1
  have hcw := hc.2.1
  have HC := Lib.hid hc
  clear hR hc
  obtain ⟨c0, c1, c2, c3⟩ := c
  simp only at hce hcw ⊢
  go_enter Try.func44, Try.ntmps44
  go_upto_region 1 with (fail)
  refine alloc_next2 (cs := [.int .i64 c0, .int .i64 c1, .int .i64 c2, .int .i64 c3, .slice A n cA, .slice B m cB, .int .i64 ep]) (ds := [.int .i64 0, .int .i64 0, .int .i64 0, .int .i64 0, .slice none 0 0, .slice none 0 0, .int .i64 0]) ?_
  intro w1 hX hZ hs1 hl1
  obtain ⟨xb, hxb⟩ : ∃ xb, w.heap.size = xb := ⟨_, rfl⟩
  rw [hxb] at hX hZ hl1 hal hbl ⊢
  have HXB := Lib.hid hxb
  clear hxb
  go_upto_region 2 with (fail)
  have hs0 : Step (fun _ => False) w1 (w1.alloc (.cells #[] 135)) := (Step.refl _ _).alloc _
  have hE0 : DSeg (w1.alloc (.cells #[] 135)) (some ⟨w1.heap.size, 0, none⟩) 0 0 [] := ⟨rfl, .inr ⟨w1.heap.size, #[], rfl, by show (w1.heap.push _)[w1.heap.size]? = _; simp, Nat.le_refl _, Nat.le_refl _, fun j v hj => by simp [evcs] at hj⟩⟩
  have hst0 := hs1.same hs0
  have hM0 : DM (w1.alloc (.cells #[] 135)) xb xb ⟨c0, c1, c2, c3⟩ A n cA B m cB (some ⟨w1.heap.size, 0, none⟩) 0 0 ⟨l, ts, ep, []⟩ :=
    ⟨hX.keep hs0 (fun h => h), hZ.keep hs0 (fun h => h), hA.same hst0, hB.same hst0, hmc, hE0, fun k hk => by
      obtain rfl : w1.heap.size = k := Option.some.inj hk
      exact ⟨hl1, fun h => by have := hal _ h; omega, fun h => by have := hbl _ h; omega⟩, ⟨fun k hk => by have := hal k hk; have := hst0.size; have := HXB.out; omega, fun k hk => by have := hbl k hk; have := hst0.size; have := HXB.out; omega⟩, fun k hk => by have := hal k hk; omega, fun k hk => by have := hbl k hk; omega⟩
  generalize (w1.alloc (.cells #[] 135)) = w0 at *
  generalize (some (⟨w1.heap.size, 0, none⟩ : Addr)) = E0 at *
  clear hX hZ hs1 hs0 hE0 hA hB hl1
  go_loopw [6] (fun v6 wr => ∃ (S : Dd) (A1 : Option Addr) (n1 cA1 : Nat) (B1 : Option Addr) (m1 cB1 : Nat) (E : Option Addr) (q cE : Nat), v6 = .slice E q cE ∧ RunsD ⟨c0, c1, c2, c3⟩ now S R ∧ DM wr xb xb ⟨c0, c1, c2, c3⟩ A1 n1 cA1 B1 m1 cB1 E q cE S ∧ (∀ k, blockOf A1 = some k → blockOf A = some k ∨ xb ≤ k) ∧ (∀ k, blockOf B1 = some k → blockOf B = some k ∨ xb ≤ k) ∧ (n1 ≤ 3000 ∧ m1 ≤ 3000) ∧ Step (fun _ => False) w wr) (fun v _ => R.ev.length + 1 - slen v)
  case atStart => exact ⟨⟨l, ts, ep, []⟩, A, n, cA, B, m, cB, E0, 0, 0, rfl, HRR.out, hM0, fun k h => .inl h, fun k h => .inl h, by omega, hst0⟩
  case round =>
    clear hM0 hst0 hal hbl hmc
    obtain ⟨⟨Sl, Sts, Sep, Sev⟩, A1, n1, cA1, B1, m1, cB1, E, q, cE, rfl, hR, hM, hA1, hB1, hnm, hst⟩ := hrel
    have hql := hM.hE.len
    have hm1 := hM.hB.len
    have hn1 := hM.hA.len
    have hevl := hR.ev_le
    simp only at hql hm1 hn1 hevl
    have y5 := hM.hx.cell (i := 5) rfl
    have hxw := HXB.out
    have hzw := hst.size
    have HM := Lib.hid hM
    rcases hR.cases' with ⟨rfl, hstop⟩ | ⟨s, r, hts, hnow, hpb, htm, hbnd, hR2⟩
    · have HP := Lib.hid (It.pop_none (c := cB1) hM.hB (by omega) now hstop)
      clear hM hR hstop hevl
      go_upto_region 3 with (go_at_call 62; refine HP.out.mono ?_; rintro e2 w2 ⟨rfl, hs2⟩)
      refine alloc_next (cs := [.string ⟨#[]⟩, .int .i64 0]) ?_
      intro w3 hT hs3
      have hs23 := hs2.same hs3
      have hX3 := HM.out.hx.keep hs23 (fun h => h)
      have hZ3 := HM.out.hz.keep hs23 (fun h => h)
      generalize w2.heap.size = tb at *
      clear y5 hT hs2 hs3
      have y0 := hX3.cell (i := 0) rfl
      have y1 := hX3.cell (i := 1) rfl
      have y2 := hX3.cell (i := 2) rfl
      have y3 := hX3.cell (i := 3) rfl
      have y4 := hX3.cell (i := 4) rfl
      have y5 := hX3.cell (i := 5) rfl
      have y6 := hX3.cell (i := 6) rfl
      go_wp2_with (refine wpList_store_blk rfl 60 (.tmp 4) (.tmp 25) rfl hZ3 rfl (vs := [.int .i64 c0, .int .i64 c1, .int .i64 c2, .int .i64 c3, .slice A1 n1 cA1, .slice B1 m1 cB1, .int .i64 Sep]) rfl (by kernel_rfl) rfl (cell7 _ _ _ _ _ _ _ _ _ _ _) ?_; intro w9 hZ9 hs9)
      try simp only [Exit.inBlock, Exit.then]
      refine post_cell_tmp (cs := [.int .i64 c0, .int .i64 c1, .int .i64 c2, .int .i64 c3, .slice A1 n1 cA1, .slice B1 m1 cB1, .int .i64 Sep]) rfl rfl hZ9 Try.underlying60 rfl (by kernel_rfl) rfl rfl ?_
      have hM := HM.out
      have hz23 := hs23.size
      have hz9 := hs9.size
      subst hql hm1 hn1
      exact ⟨A1, cA1, B1, cB1, E, cE, rfl, (hM.hA.same hs23).keep hs9 (fun k hk e => by have := hM.fa.1 k hk; omega), (hM.hB.same hs23).keep hs9 (fun k hk e => by have := hM.fa.2 k hk; omega), hM.le, (hM.hE.keep hs23 (fun _ _ h => h)).keep hs9 (fun k hk e => by have := (hM.fe k hk).1; omega), fun k hk => by have := hM.lt.1 k hk; omega, fun k hk => by have := hM.lt.2 k hk; omega, fun k hk => (hA1 k hk).imp id (fun h => by omega), fun k hk => (hB1 k hk).imp id (fun h => by omega), fun k hk => by have := (hM.fe k hk).1; omega, (hst.same hs23).trans hs9 (fun j hj e => by omega)⟩
    · --STEP
      simp only at hts hpb htm hbnd hnow
      subst hts
      obtain ⟨sk, stm⟩ := s
      unfold dstep at hR2
      simp only at hpb htm hR2 hnow
      obtain ⟨x, hx⟩ : ∃ x, (getO Sl sk).getD zOe = x := ⟨_, rfl⟩
      rw [hx] at hpb hR2
      have HP := Lib.hid (It.pop_some (c := cB1) hM.hB (by omega) hM.le now hnow)
      have HF := Lib.hid (fun (w' : World) A' n' cA' B' m' cB' (hA : ORd w' A' n' Sl) (hn : n' ≤ 100000) => find_calls (B := B') (cA := cA') (m := m') (cB := cB') ⟨c0, c1, c2, c3⟩ Sep hA hn sk)
      rw [hx] at HF
      have HRS := Lib.hid (fun (w' : World) A' n' cA' B' m' cB' (hA : ORd w' A' n' Sl) (hB : IRd w' B' m' r) (hn : n' ≤ 10000) (hm : m' ≤ 10000) => dresult_calls (cA := cA') (cB := cB') hA hB hn hm HC.out (ep := Sep) ⟨hbnd.2.2.1, by omega⟩ sk false htm hx hpb)
      have HPU := Lib.hid (fun (w' : World) A' n' cA' (hA : ORd w' A' n' Sl) (hn : n' ≤ 100000) => put_calls (cA := cA') hA hn ⟨x.nm, x.pb, true⟩)
      have HSE := Lib.hid (fun (w' : World) A' n' cA' B' m' cB' (hB : IRd w' B' m' r) (hm : m' ≤ 100000) => dset_calls (cB := cB') hB hm ⟨c0, c1, c2, c3⟩ A' n' cA' Sep sk (stm + c1))
      generalize (getO Sl sk).isSome = fnd at *
      have hlr : r.length + 1 = m1 := by rw [← hm1]; rfl
      have hl1 := putO_len Sl ⟨sk, (resP x.pb ⟨c0, c1, c2, c3⟩ false stm).1, false⟩
      have hl2 := putO_len Sl ⟨x.nm, x.pb, true⟩
      have ht1 := timI_len r sk (stm + c0)
      have ht2 := timI_len r sk (stm + c1)
      have hee := (resE_len (resP x.pb ⟨c0, c1, c2, c3⟩ false stm) sk stm Sep).2
      simp only [List.length_cons] at hbnd
      clear hM hR hnow hx hpb hm1
      obtain ⟨x0, ⟨x1, x2, x3, x4⟩, x5⟩ := x
      simp only [onc] at HF HRS HPU hR2 hl1 hl2 hee
      go_upto_region 3 with (go_at_call 62; refine HP.out.mono ?_; rintro e2 w2 ⟨B2, rfl, hB2, hBe, hs2⟩)
      refine alloc_next (cs := [.string sk, .int .i64 stm]) ?_
      intro w3 hT hs3
      have hs23 := hs2.same hs3
      have hX3 := HM.out.hx.keep hs23 (fun h => h)
      have hZ3 := HM.out.hz.keep hs23 (fun h => h)
      have hA3 := HM.out.hA.same hs23
      have hB3 := hB2.same hs3
      have hE3 := HM.out.hE.keep hs23 (fun _ _ h => h)
      have hz3 := hs2.size
      have hzl := HM.out.hz.lt
      obtain ⟨tb, htb⟩ : ∃ tb, w2.heap.size = tb := ⟨_, rfl⟩
      rw [htb] at hT hz3 ⊢
      have hst3 := hst.same hs23
      clear htb y5 hs2 hs3 hB2 HP
      have y5 := hX3.cell (i := 5) rfl
      have f5 := hX3.free 5
      go_upto_region 6 with (fail)
      refine put_plain hX3 ?_
      intro w4 hX4 hs4
      have hst4 : Step (fun _ => False) w w4 := hst3.trans hs4 (fun j hj e => by omega)
      have hZ4 := hZ3.keep hs4 (fun e => by omega)
      have hT4 := hT.keep hs4 (fun e => by omega)
      have hA4 := hA3.keep hs4 (fun k hk e => (HM.out.fa.1 k hk).1 e)
      have hB4 := hB3.keep hs4 (fun k hk e => (HM.out.fa.2 k (hBe ▸ hk)).1 e)
      have hE4 := hE3.keep hs4 (fun k hk e => by have := (HM.out.fe k hk).1; omega)
      clear y5 f5 hX3 hZ3 hA3 hB3 hE3 hT hst3 hs4
      have y0 := hX4.cell (i := 0) rfl
      have y1 := hX4.cell (i := 1) rfl
      have y2 := hX4.cell (i := 2) rfl
      have y3 := hX4.cell (i := 3) rfl
      have y4 := hX4.cell (i := 4) rfl
      have y5 := hX4.cell (i := 5) rfl
      have y6 := hX4.cell (i := 6) rfl
      have t0 := hT4.cell (i := 0) rfl
      have HF4 := Lib.hid (HF.out w4 A1 n1 cA1 B2 (m1 - 1) (cB1 - 1) hA4 (by omega))
      go_upto_region 7 with (go_at_call 57; refine HF4.out.mono ?_; rintro e5 w5 ⟨rfl, hs5⟩)
      refine alloc_next (cs := [.string x0, .bool x1, .int .i64 x2, .int .i64 x3, .int .i64 x4, .bool x5]) ?_
      intro w6 hO hs6
      have hs56 := hs5.same hs6
      have hst6 := hst4.same hs56
      have hX6 := hX4.keep hs56 (fun h => h)
      have hZ6 := hZ4.keep hs56 (fun h => h)
      have hT6 := hT4.keep hs56 (fun h => h)
      have hA6 := hA4.same hs56
      have hB6 := hB4.same hs56
      have hE6 := hE4.keep hs56 (fun _ _ h => h)
      have hzo : tb < w5.heap.size := by have := hT4.lt; have := hs5.size; omega
      obtain ⟨ob, hob⟩ : ∃ ob, w5.heap.size = ob := ⟨_, rfl⟩
      rw [hob] at hO hzo ⊢
      have HO6 := Lib.hid hO
      have hE6l : ∀ k, blockOf E = some k → k < w6.heap.size := fun k hk => hE6.lt hk
      clear hob y0 y1 y2 y3 y4 y5 y6 t0 hs5 hs6 hs56 hX4 hZ4 hT4 hA4 hB4 hE4 HF4 HF hst4
      have y0 := hX6.cell (i := 0) rfl
      have y1 := hX6.cell (i := 1) rfl
      have y2 := hX6.cell (i := 2) rfl
      have y3 := hX6.cell (i := 3) rfl
      have y4 := hX6.cell (i := 4) rfl
      have y5 := hX6.cell (i := 5) rfl
      have y6 := hX6.cell (i := 6) rfl
      have t0 := hT6.cell (i := 0) rfl
      have t1 := hT6.cell (i := 1) rfl
      have z5 := hO.cell (i := 5) rfl
      cases x5 with
      | true =>
        rw [if_pos rfl] at hR2
        clear HPU HSE
        have HR6 := Lib.hid (HRS.out w6 A1 n1 cA1 B2 (m1 - 1) (cB1 - 1) hA6 hB6 (by omega) (by omega))
        clear HRS
        generalize putO Sl ⟨sk, (resP ⟨x1, x2, x3, x4⟩ ⟨c0, c1, c2, c3⟩ false stm).1, false⟩ = l2 at *
        generalize timI r sk (stm + c0) = t2 at *
        generalize (if (resP ⟨x1, x2, x3, x4⟩ ⟨c0, c1, c2, c3⟩ false stm).2 = true then Sep + 1 else Sep) = ep2 at *
        generalize resE (resP ⟨x1, x2, x3, x4⟩ ⟨c0, c1, c2, c3⟩ false stm) sk stm = mv at *
        go_upto_region 9 with (go_at_call 63; refine HR6.out.mono ?_; rintro e7 w7 ⟨A7, cA7, B7, cB7, E7, cE7, rfl, hA7, hB7, hE7, hAf7, hBf7, hEf7, hs7⟩)
        refine alloc_next (cs := [.int .i64 c0, .int .i64 c1, .int .i64 c2, .int .i64 c3, .slice A7 l2.length cA7, .slice B7 t2.length cB7, .int .i64 ep2]) ?_
        intro w8 hG hs8
        have hs78 := hs7.same hs8
        have hst8 := hst6.same hs78
        have hX8 := hX6.keep hs78 (fun h => h)
        have hZ8 := hZ6.keep hs78 (fun h => h)
        have hT8 := hT6.keep hs78 (fun h => h)
        have hE8 := hE6.keep hs78 (fun _ _ h => h)
        have hA8 := hA7.keep hs8 (fun _ _ h => h)
        have hB8 := hB7.keep hs8 (fun _ _ h => h)
        have hM8 := hE7.keep hs8 (fun _ _ h => h)
        have hz68 := hs78.size
        have hx6l := hZ6.lt
        have ho6l := hO.lt
        have hz7 := hs7.size
        generalize w7.heap.size = gb at *
        clear y0 y1 y2 y3 y4 y5 y6 t0 t1 z5 hs7 hs8 hX6 hZ6 hT6 hA6 hB6 hE6 hA7 hB7 hE7 HR6 hs78 hst6 hO
        have y0 := hG.cell (i := 0) rfl
        have y1 := hG.cell (i := 1) rfl
        have y2 := hG.cell (i := 2) rfl
        have y3 := hG.cell (i := 3) rfl
        have y4 := hG.cell (i := 4) rfl
        have y5 := hG.cell (i := 5) rfl
        have y6 := hG.cell (i := 6) rfl
        go_upto_region 10 with (refine wpList_store_blk rfl 60 (.tmp 2) (.tmp 47) rfl hX8 rfl (vs := [.int .i64 c0, .int .i64 c1, .int .i64 c2, .int .i64 c3, .slice A7 l2.length cA7, .slice B7 t2.length cB7, .int .i64 ep2]) rfl (by kernel_rfl) rfl (cell7 _ _ _ _ _ _ _ _ _ _ _) ?_; intro w9 hX9 hs9)
        have hst9 : Step (fun _ => False) w w9 := hst8.trans hs9 (fun j hj e => by omega)
        have hZ9 := hZ8.keep hs9 (fun e => by omega)
        have hT9 := hT8.keep hs9 (fun e => by omega)
        have hA9 := hA8.keep hs9 (fun k hk e => by have := hAf7 k hk; omega)
        have hB9 := hB8.keep hs9 (fun k hk e => by have := hBf7 k hk; omega)
        have hM9 := hM8.keep hs9 (fun k hk e => by have := hEf7 k hk; omega)
        have hE9 := hE8.keep hs9 (fun k hk e => by have := (HM.out.fe k hk).1; omega)
        have hz9 := hs9.size
        obtain ⟨E5, c5, w10, hap5, hE10, hE5f, hs10⟩ := app_ev_step hE9 (by omega) ⟨2, sk, stm⟩
        have hM10 := hM9.keep hs10 (fun k hk h => by have := hEf7 k hk; have := hE6l k h; omega)
        obtain ⟨E6, c6, w11, hap6, hE11, hs11, hE6f⟩ := run_app_d hE10 hM10 (.inl (fun e => by
          have h1 := hE10.2
          rcases h1 with ⟨h1, h2, _⟩ | ⟨g, cur, h1, _⟩
          · omega
          · rw [h1] at e; cases e)) (by omega)
        have hE5g : ∀ k, blockOf E5 = some k → blockOf E = some k ∨ w9.heap.size ≤ k := hE5f
        have hE6g : ∀ k, blockOf E6 = some k → blockOf E = some k ∨ w9.heap.size ≤ k := fun k hk => by
          rcases hE6f with e | ⟨j, e, hj⟩
          · exact hE5g k (e ▸ hk)
          · rw [hk] at e
            obtain rfl := Option.some.inj e
            exact .inr (by have := hs10.size; omega)
        have hEx : ∀ k, blockOf E = some k → xb + 1 < k ∧ k < w6.heap.size := fun k hk => ⟨(HM.out.fe k hk).1, hE6l k hk⟩
        have hA7l : ∀ k, blockOf A7 = some k → w6.heap.size ≤ k ∧ k < w9.heap.size := fun k hk => ⟨hAf7 k hk, FSeg.lt hA9 hk⟩
        have hB7l : ∀ k, blockOf B7 = some k → w6.heap.size ≤ k ∧ k < w9.heap.size := fun k hk => ⟨hBf7 k hk, FSeg.lt hB9 hk⟩
        have hNew : ∀ k, (blockOf E = some k ∨ w9.heap.size ≤ k) → xb + 1 < k ∧ blockOf A7 ≠ some k ∧ blockOf B7 ≠ some k := fun k hk => by
          rcases hk with h | h
          · have h1 := hEx k h
            exact ⟨h1.1, fun h2 => by have := hA7l k h2; omega, fun h2 => by have := hB7l k h2; omega⟩
          · exact ⟨by omega, fun h2 => by have := hA7l k h2; omega, fun h2 => by have := hB7l k h2; omega⟩
        have hz10 := hs10.size
        have hz11 := hs11.size
        have hst11 : Step (fun _ => False) w w11 := (hst9.trans hs10 (fun j hj e => by have := (hEx j e).1; omega)).trans hs11 (fun j hj e => by have := (hNew j (hE5g j e)).1; omega)
        have hM11 : DM w11 xb xb ⟨c0, c1, c2, c3⟩ A7 l2.length cA7 B7 t2.length cB7 E6 (q + 1 + mv.length) c6 ⟨l2, t2, ep2, Sev ++ [⟨2, sk, stm⟩] ++ mv⟩ :=
          ⟨(hX9.keep hs10 (fun e => by have := (hEx _ e).1; omega)).keep hs11 (fun e => by have := (hNew _ (hE5g _ e)).1; omega),
           (hZ9.keep hs10 (fun e => by have := (hEx _ e).1; omega)).keep hs11 (fun e => by have := (hNew _ (hE5g _ e)).1; omega),
           ((hA9.keep hs10 (fun k hk e => (hNew k (.inl e)).2.1 hk)).keep hs11 (fun k hk e => (hNew k (hE5g k e)).2.1 hk)).rd,
           ((hB9.keep hs10 (fun k hk e => (hNew k (.inl e)).2.2 hk)).keep hs11 (fun k hk e => (hNew k (hE5g k e)).2.2 hk)).rd,
           FSeg.le hB9, hE11, fun k hk => hNew k (hE6g k hk), ⟨fun k hk => by have := hA7l k hk; omega, fun k hk => by have := hB7l k hk; omega⟩, ⟨fun k hk => by have := hA7l k hk; omega, fun k hk => by have := hB7l k hk; omega⟩⟩
        have HM11 := Lib.hid hM11
        have HR2 := Lib.hid hR2
        have hA7g : ∀ k, blockOf A7 = some k → xb ≤ k := fun k hk => by have := hA7l k hk; omega
        have hB7g : ∀ k, blockOf B7 = some k → xb ≤ k := fun k hk => by have := hB7l k hk; omega
        have t0 := hT9.cell (i := 0) rfl
        have t1 := hT9.cell (i := 1) rfl
        have hqs : Sev.length = q := hql
        clear hM11 hR2 hNew hEx hE5g hE6g hX9 hZ9 hA9 hB9 hM9 hE9 hE10 hE11 hs10 hs11 hE6f hT9 hM10 hM8 hE8 hA8 hB8 hT8 hZ8 hX8 hst9 hst8 hG y0 y1 y2 y3 y4 y5 y6
        go_wp2_with (first | (at_builtin; refine wpList_app1 (by rfl) (.tmp 48) (.tmp 54) 97 (by rfl) (by rfl) (by rfl) hap5 ?_) | (at_builtin; refine wpList_app (by rfl) (.tmp 55) (.tmp 56) 97 (by rfl) (by rfl) (by rfl) hap6 ?_))
        go_roundw
        case rel => exact ⟨⟨l2, t2, ep2, Sev ++ [⟨2, sk, stm⟩] ++ mv⟩, A7, l2.length, cA7, B7, t2.length, cB7, E6, q + 1 + mv.length, c6, rfl, HR2.out, HM11.out, fun k hk => .inr (hA7g k hk), fun k hk => .inr (hB7g k hk), by omega, hst11⟩
        case measure => simp only [slen]; omega
      | false =>
        rw [if_neg (by simp)] at hR2
        clear HRS
        have HPU6 := Lib.hid (fun w' (h : ORd w' A1 n1 Sl) => HPU.out w' A1 n1 cA1 h (by omega))
        have HSE6 := Lib.hid (fun w' (h : IRd w' B2 (m1 - 1) r) A' n' cA' => HSE.out w' A' n' cA' B2 (m1 - 1) (cB1 - 1) h (by omega))
        clear HPU HSE
        generalize putO Sl ⟨x0, ⟨x1, x2, x3, x4⟩, true⟩ = l2 at *
        generalize timI r sk (stm + c1) = t2 at *
        have hw1 : IntKind.i64.wrap (stm + c1) = stm + c1 := by rw [IntKind.wrap_i64]; omega
        have fo := hO.free 5
        have hx6l := hZ6.lt
        have ho6l := hO.lt
        have hz6 := hst6.size
        go_upto_region 12 with (fail)
        refine put_plain hO ?_
        intro w7 hO7 hs7
        have hst7 : Step (fun _ => False) w w7 := hst6.trans hs7 (fun j hj e => by omega)
        have hX7 := hX6.keep hs7 (fun e => by omega)
        have hZ7 := hZ6.keep hs7 (fun e => by omega)
        have hT7 := hT6.keep hs7 (fun e => by omega)
        have hA7 := hA6.keep hs7 (fun k hk e => by have h1 := HM.out.lt.1 k hk; have h2 := HM.out.hz.lt; omega)
        have hB7 := hB6.keep hs7 (fun k hk e => by have h1 := HM.out.lt.2 k (hBe ▸ hk); omega)
        have hE7 := hE6.keep hs7 (fun k hk e => by have h1 := HM.out.hE.lt hk; omega)
        have hz7 := hs7.size
        clear y0 y1 y2 y3 y4 y5 y6 t0 t1 z5 fo hX6 hZ6 hT6 hA6 hB6 hE6 hO hs7 hst6
        have y4 := hX7.cell (i := 4) rfl
        have o0 := hO7.cell (i := 0) rfl
        have o1 := hO7.cell (i := 1) rfl
        have o2 := hO7.cell (i := 2) rfl
        have o3 := hO7.cell (i := 3) rfl
        have o4 := hO7.cell (i := 4) rfl
        have o5 := hO7.cell (i := 5) rfl
        have HP7 := Lib.hid (HPU6.out w7 hA7)
        go_upto_region 13 with (go_at_call 58; refine HP7.out.mono ?_; rintro e8 w8 ⟨A8, cA8, rfl, hA8, hAf8, hs8⟩; have hX8 := hX7.keep hs8 (fun h => h); have f4 := hX8.free 4; have g4 := hX8.cell (i := 4) rfl)
        refine put_plain hX8 ?_
        intro w9 hX9 hs9
        have hst9 : Step (fun _ => False) w w9 := (hst7.same hs8).trans hs9 (fun j hj e => by omega)
        have hZ9 := (hZ7.keep hs8 (fun h => h)).keep hs9 (fun e => by omega)
        have hT9 := (hT7.keep hs8 (fun h => h)).keep hs9 (fun e => by omega)
        have hA9 := hA8.keep hs9 (fun k hk e => by have := hAf8 k hk; omega)
        have hB9 := (hB7.same hs8).keep hs9 (fun k hk e => (HM.out.fa.2 k (hBe ▸ hk)).1 e)
        have hE9 := (hE7.keep hs8 (fun _ _ h => h)).keep hs9 (fun k hk e => by have := (HM.out.fe k hk).1; omega)
        have hz8 := hs8.size
        have hz9 := hs9.size
        clear y4 o0 o1 o2 o3 o4 o5 f4 g4 hX7 hX8 hZ7 hT7 hA7 hB7 hE7 hA8 hs8 hs9 hO7 HP7
        have y0 := hX9.cell (i := 0) rfl
        have y1 := hX9.cell (i := 1) rfl
        have y2 := hX9.cell (i := 2) rfl
        have y3 := hX9.cell (i := 3) rfl
        have y4 := hX9.cell (i := 4) rfl
        have y5 := hX9.cell (i := 5) rfl
        have y6 := hX9.cell (i := 6) rfl
        have t0 := hT9.cell (i := 0) rfl
        have t1 := hT9.cell (i := 1) rfl
        have HS9 := Lib.hid (HSE6.out w9 hB9 A8 l2.length cA8)
        have HX9 := Lib.hid hX9
        clear hX9
        go_upto_region 14 with (first | (go_at_call 60; refine HS9.out.mono ?_; rintro e10 w10 ⟨B10, cB10, rfl, hB10, hBf10, hs10⟩) | (refine wpList_store_blk rfl 60 (.tmp 2) (.tmp 73) rfl (HX9.out.keep hs10 (fun h => h)) rfl (vs := [.int .i64 c0, .int .i64 c1, .int .i64 c2, .int .i64 c3, .slice A8 l2.length cA8, .slice B10 t2.length cB10, .int .i64 Sep]) rfl (by kernel_rfl) rfl (cell7 _ _ _ _ _ _ _ _ _ _ _) ?_; intro w11 hX11 hs11))
        have hst11 : Step (fun _ => False) w w11 := (hst9.same hs10).trans hs11 (fun j hj e => by omega)
        have hZ11 := (hZ9.keep hs10 (fun h => h)).keep hs11 (fun e => by omega)
        have hT11 := (hT9.keep hs10 (fun h => h)).keep hs11 (fun e => by omega)
        have hA11 := (hA9.keep hs10 (fun _ _ h => h)).keep hs11 (fun k hk e => by have := hAf8 k hk; omega)
        have hB11 := hB10.keep hs11 (fun k hk e => by have := hBf10 k hk; omega)
        have hE11 := (hE9.keep hs10 (fun _ _ h => h)).keep hs11 (fun k hk e => by have := (HM.out.fe k hk).1; omega)
        have hz10 := hs10.size
        have hz11 := hs11.size
        obtain ⟨E5, c5, w12, hap5, hE12, hE5f, hs12⟩ := app_ev_step hE11 (by omega) ⟨1, sk, stm⟩
        have hEx : ∀ k, blockOf E = some k → xb + 1 < k ∧ k < w6.heap.size := fun k hk => ⟨(HM.out.fe k hk).1, hE6l k hk⟩
        have hA7l : ∀ k, blockOf A8 = some k → w6.heap.size ≤ k ∧ k < w11.heap.size := fun k hk => ⟨by have := hAf8 k hk; omega, FSeg.lt hA11 hk⟩
        have hB7l : ∀ k, blockOf B10 = some k → w6.heap.size ≤ k ∧ k < w11.heap.size := fun k hk => ⟨by have := hBf10 k hk; omega, FSeg.lt hB11 hk⟩
        have hNew : ∀ k, (blockOf E = some k ∨ w11.heap.size ≤ k) → xb + 1 < k ∧ blockOf A8 ≠ some k ∧ blockOf B10 ≠ some k := fun k hk => by
          rcases hk with h | h
          · have h1 := hEx k h
            exact ⟨h1.1, fun h2 => by have := hA7l k h2; omega, fun h2 => by have := hB7l k h2; omega⟩
          · exact ⟨by omega, fun h2 => by have := hA7l k h2; omega, fun h2 => by have := hB7l k h2; omega⟩
        have hz12 := hs12.size
        have hst12 : Step (fun _ => False) w w12 := hst11.trans hs12 (fun j hj e => by have := (hEx j e).1; omega)
        have hM12 : DM w12 xb xb ⟨c0, c1, c2, c3⟩ A8 l2.length cA8 B10 t2.length cB10 E5 (q + 1) c5 ⟨l2, t2, Sep, Sev ++ [⟨1, sk, stm⟩]⟩ :=
          ⟨hX11.keep hs12 (fun e => by have := (hEx _ e).1; omega), hZ11.keep hs12 (fun e => by have := (hEx _ e).1; omega),
           (hA11.keep hs12 (fun k hk e => (hNew k (.inl e)).2.1 hk)).rd, (hB11.keep hs12 (fun k hk e => (hNew k (.inl e)).2.2 hk)).rd,
           FSeg.le hB11, hE12, fun k hk => hNew k (hE5f k hk), ⟨fun k hk => by have := hA7l k hk; omega, fun k hk => by have := hB7l k hk; omega⟩, ⟨fun k hk => by have := hA7l k hk; omega, fun k hk => by have := hB7l k hk; omega⟩⟩
        have HM12 := Lib.hid hM12
        have HR2 := Lib.hid hR2
        have hA7g : ∀ k, blockOf A8 = some k → xb ≤ k := fun k hk => by have := hA7l k hk; omega
        have hB7g : ∀ k, blockOf B10 = some k → xb ≤ k := fun k hk => by have := hB7l k hk; omega
        have u0 := hT11.cell (i := 0) rfl
        have u1 := hT11.cell (i := 1) rfl
        clear hM12 hR2 hNew hEx hX11 hZ11 hA11 hB11 hE11 hE12 hs10 hs11 hs12 hE5f hT11 hT9 hA9 hB9 hZ9 hE9 hB10 HS9 HX9 y0 y1 y2 y3 y4 y5 y6 t0 t1
        go_wp2_with (at_builtin; refine wpList_app1 (by rfl) (.tmp 74) (.tmp 80) 97 (by rfl) (by rfl) (by rfl) hap5 ?_)
        go_roundw
        case rel => exact ⟨⟨l2, t2, Sep, Sev ++ [⟨1, sk, stm⟩]⟩, A8, l2.length, cA8, B10, t2.length, cB10, E5, q + 1, c5, rfl, HR2.out, HM12.out, fun k hk => .inr (hA7g k hk), fun k hk => .inr (hB7g k hk), by omega, hst12⟩
        case measure => simp only [slen]; omega
end Go.Proofs.Ytghiklaeenhljaa.HeD
