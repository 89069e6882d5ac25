/- law 06: Few, Own. Own work of this seat; no condition but on lengths. -/
import Derived.Test.YtdglbpjgadjnjaaDoorFie6
namespace Go.Proofs.YtdglbpjgadjnjaaDoor.Fie
open Go.RowKit Go.Proofs.YtdglbpjgadjnjaaDoor.Kit Go.Proofs.YtdglbpjgadjnjaaDoor.Oct Go.Proofs.YtdglbpjgadjnjaaDoor.Cut
set_option linter.unusedVariables false
set_option linter.unusedSimpArgs false

/-- append at a step of a region that draws its order, out of its run's equation. -/
theorem step_app8 {P : Program} {ops : Array Oper} {o : Oper} {a : Act} {w w' : World} {K : Act → World → Prop} {Q : Exit → Act → World → Prop} {E : Prop} (hgd : o.guard = none) (s x : Operand) (t : TypeId)
    (ho : o.op = .call { callee := .builtin .append, args := #[s, x], argTypes := #[t, t] }) {vs vx v : Value} (hs : a.eval s = vs) (hx : a.eval x = vx) (hr : (Builtin.append_ #[t, t] o.type #[vs, vx]).run P w = .ok v w') (h : K (a.put o.dst v) w') :
    if Region.wanted o (yielded ops a.tmps) = true then Oper.wp P o a w K Q else E := by
  have hw : Region.wanted o (yielded ops a.tmps) = true := by simp [Region.wanted, hgd]
  rw [if_pos hw]
  unfold Oper.wp execOp
  simp only [ho, resolve, invoke, builtin, Sem.run_bind, Sem.run_pure, Result.andThen_ok, List.map_toArray, List.map_cons, List.map_nil, hs, hx, hr]
  exact h
theorem i0rf : ∃ i, Tryd.prog.info? 31 = some i ∧ i.zero = some (.agg #[.string ⟨#[]⟩, .string ⟨#[]⟩]) ∧ i.size = 2 ∧ i.bytes = 32 := by
  obtain ⟨i, hi, hp⟩ := Option.map_eq_some_iff.1 (by kernel_rfl : (Tryd.prog.info? 31).map (fun i => (i.zero, i.size, i.bytes)) = some (some (.agg #[.string ⟨#[]⟩, .string ⟨#[]⟩]), 2, 32))
  simp only [Prod.mk.injEq] at hp
  exact ⟨i, hi, hp⟩
/-- append of one of the document's fields whose block lies anywhere. -/
theorem app_rf_any {W : World} {B : Option Addr} {m cB b : Nat} {l : List Fd} (hB : FW W 31 B m cB l) (hb : m + 1 ≤ 1000000) (x : Fd) (hE : Blk W b 31 [.string x.nm, .string x.vl]) :
    ∃ B' c' w', (Builtin.append_ #[22, 22] 22 #[.slice B m cB, .slice (some ⟨b, 0, none⟩) 1 1]).run Tryd.prog W = .ok (.slice B' (m + 1) c') w' ∧ FW w' 31 B' (m + 1) c' (l ++ [x]) ∧ (blockOf B' = blockOf B ∨ ∃ k, blockOf B' = some k ∧ W.heap.size ≤ k) ∧ Step (fun k => blockOf B = some k) W w' := by
  obtain ⟨i0, hi0, hz0, hs0, hy0⟩ := i0rf
  obtain ⟨B5, c5, w5, hap, hB6, hs5, hn5⟩ := run_app_one (k := 2) (v := fdc x) 22 31 Tryd.underlying22 hi0 hz0 rfl hs0 hy0 (by omega) hB rfl (fdc_cell x) hE hb
  exact ⟨B5, c5, w5, hap, by unfold FW; rw [fdcs_append, fdcs_one]; exact hB6, hn5, hs5⟩
/-- A row that came in: its cells stand wherever what is below stands. -/
def ARd (w : World) (A : Option Addr) (n : Nat) (l : List Fd) : Prop := l.length = n ∧ ∀ i x, l[i]? = some x → ∃ ad : Addr, A = some ad ∧ ∀ w', Below w.heap.size w w' → w'.cell? (ad.add (i * 2)) = some (.string x.nm) ∧ w'.cell? ⟨(ad.add (i * 2)).block, (ad.add (i * 2)).off + 1, none⟩ = some (.string x.vl)
def cutF (x : Fd) : Fd := ⟨cutB x.nm 20, cutB x.vl 40⟩
def fewF (l : List Fd) (k : Nat) : List Fd := (l.take k).map cutF
theorem fewF_step {l : List Fd} {i k : Nat} {x : Fd} (h : l[i]? = some x) : (l.take (i + 1)).map cutF = (l.take i).map cutF ++ [cutF x] := by
  rw [List.take_add_one, h]
  simp
set_option maxRecDepth 100000 in
set_option maxHeartbeats 2000000 in
theorem few_calls {w0 w : World} {A : Option Addr} {n c k : Nat} {l : List Fd} (h : ARd w0 A n l) (hb : Below w0.heap.size w0 w) (hc : n ≤ c) (hk : k ≤ 1000) (hl : ∀ x ∈ l, x.nm.size ≤ 9223372036854775807 ∧ x.vl.size ≤ 9223372036854775807) :
    Calls Tryd.prog 5 #[.slice A n c, .int .i64 k] w fun e w' => ∃ A' m c', e = .returned (.slice A' m c') ∧ m ≤ k ∧ FW w' 31 A' m c' (fewF l k) ∧ Step (fun _ => False) w w' ∧ (∀ j, blockOf A' = some j → w.heap.size ≤ j) := by
  have hln := h.1
  have HH := Lib.hid h.2
  have HB := Lib.hid hb
  have HL := Lib.hid hl
  obtain ⟨r, hr⟩ : ∃ r, fewF l k = r := ⟨_, rfl⟩
  rw [hr]
  have HR := Lib.hid hr
  have hbz := hb.size
  clear h hb hl hr
  go_enter Tryd.func5, Tryd.ntmps5
  go_wp2
  go_loopw [5, 6] (fun v5 v6 wr => ∃ (i : Nat) (B : Option Addr) (cB : Nat), v6 = .int .i64 (i : Int) ∧ v5 = .slice B i cB ∧ i ≤ n ∧ i ≤ k ∧ FW wr 31 B i cB ((l.take i).map cutF) ∧ Step (fun _ => False) w wr ∧ (∀ j, blockOf B = some j → w.heap.size ≤ j)) (fun _ v _ => k - (intOf v).toNat)
  case atStart => exact ⟨0, none, 0, rfl, rfl, Nat.zero_le _, Nat.zero_le _, fseg_nil _ _ _, Step.refl _ _, fun j hj => by cases hj⟩
  case round =>
    obtain ⟨i, B, cB, rfl, rfl, hin0, hik0, hF, hst, hf⟩ := hrel
    by_cases hgo : i < n ∧ i < k
    · obtain ⟨hin, hik⟩ := hgo
      have hin' : ((i : Int) < (n : Int)) := by omega
      have hik' : ((i : Int) < (k : Int)) := by omega
      have hget : l[i]? = some l[i] := List.getElem?_eq_getElem (by omega)
      obtain ⟨ad, rfl, hcell⟩ := HH.out i l[i] hget
      have hsz := HL.out l[i] (List.getElem_mem (by omega))
      have HNX := Lib.hid (fewF_step (k := k) hget)
      generalize l[i] = x at *
      obtain ⟨a0, a1⟩ := hcell wr (HB.out.trans (hst.below hbz (fun _ h => h.elim)))
      obtain ⟨x0, x1⟩ := x
      simp only at a0 a1 hsz
      have hc0 : ∀ w', Calls Tryd.prog 12 #[.string x0, .int .i64 20] w' (fun e w'' => e = .returned (.string (cutB x0 20)) ∧ w' = w'') := fun w' => cut_calls x0 20 hsz.1 w'
      have HC0 := Lib.hid hc0
      clear hc0
      have hc1 : ∀ w', Calls Tryd.prog 12 #[.string x1, .int .i64 40] w' (fun e w'' => e = .returned (.string (cutB x1 40)) ∧ w' = w'') := fun w' => cut_calls x1 40 hsz.2 w'
      have HC1 := Lib.hid hc1
      clear hc1
      have HCF : cutF ⟨x0, x1⟩ = ⟨cutB x0 20, cutB x1 40⟩ := rfl
      rw [HCF] at HNX
      generalize cutB x0 20 = y0 at *
      generalize cutB x1 40 = y1 at *
      have e1 := ((blk_new wr [.string y0, .string y1] 31)).drew
      obtain ⟨B1, d1, v1, hap1, hG1, hn1, ht1⟩ := app_rf_any (hF.keep ((((Step.refl _ wr).alloc (.cells #[.string y0, .string y1] 31))).drew) (fun _ _ h => h)) (by omega) ⟨y0, y1⟩ e1
      have hv1 : Step (fun _ => False) w v1 := (hst.same (((Step.refl _ wr).alloc (.cells #[.string y0, .string y1] 31)).drew)).trans ht1 (fun j hj h => by have := hf _ h; omega)
      have hzr := hst.size
      have HX := Lib.hid (And.intro hG1 hn1)
      have HF := Lib.hid hf
      have HCE := Lib.hid (fun w' (hs' : Step (fun _ => False) w w') => hcell w' (HB.out.trans (hs'.below hbz (fun _ h => h.elim))))
      clear hget hcell hF hG1 hn1 ht1 e1 hf HH
      go_upto_region 5 with (fail)
      go_region_held3 (fun w' => w'.cell? (ad.add (i * 2)) = some (.string x0) ∧ w'.cell? ⟨(ad.add (i * 2)).block, (ad.add (i * 2)).off + 1, none⟩ = some (.string x1)) (with_reducible refine HCE.out _ ?_; with_reducible first
          | exact hst
          | exact hst.drew
          | exact (hst.alloc _).drew
          | exact hv1)
        (first
          | (refine step_app8 (by rfl) (.tmp 18) (.tmp 32) 22 (by rfl) (by rfl) (by rfl) hap1 ?_)
          | (go_at_call 12; with_reducible refine (HC0.out _).mono ?_; rintro e w' ⟨rfl, rfl⟩)
          | (go_at_call 12; with_reducible refine (HC1.out _).mono ?_; rintro e w' ⟨rfl, rfl⟩))
      all_goals
        go_wp2
        go_roundw
        case rel =>
          obtain ⟨hG1, hn1⟩ := HX.out
          have hf := HF.out
          refine ⟨i + 1, B1, d1, by go_num, rfl, by omega, by omega, by rw [HNX.out]; exact hG1, hv1, fun j hj => ?_⟩
          rcases hn1 with e | ⟨q, e, hq⟩
          · exact hf j (e ▸ hj)
          · rw [hj] at e
            cases e
            have : ∀ (u : World) (o : Obj), u.heap.size ≤ (u.alloc o).drew.heap.size := fun u o => by show _ ≤ (u.heap.push _).size; simp
            exact Nat.le_trans hzr (Nat.le_trans (this _ _) hq)
        case measure => simp [intOf]; omega
    · have hfin : (l.take i).map cutF = r := by
        rw [← HR.out]
        unfold fewF
        by_cases e : i < n
        · have : i = k := by omega
          rw [this]
        · rw [List.take_of_length_le (by omega), List.take_of_length_le (by omega)]
      rw [hfin] at hF
      have hends : ¬ i < n ∨ (i < n ∧ ¬ i < k) := by omega
      have HX := Lib.hid (And.intro hF hf)
      clear hF hf hfin HH
      rcases hends with h1 | ⟨h1, h2⟩
      · have q1 : ((i : Int) < (n : Int)) = False := eq_false (by omega)
        go_wp2
        go_ret
        exact ⟨B, i, cB, rfl, hik0, HX.out.1, hst, HX.out.2⟩
      · have q1 : ((i : Int) < (n : Int)) = True := eq_true (by omega)
        have q2 : ((i : Int) < (k : Int)) = False := eq_false (by omega)
        go_wp2
        go_ret
        exact ⟨B, i, cB, rfl, hik0, HX.out.1, hst, HX.out.2⟩
end Go.Proofs.YtdglbpjgadjnjaaDoor.Fie
