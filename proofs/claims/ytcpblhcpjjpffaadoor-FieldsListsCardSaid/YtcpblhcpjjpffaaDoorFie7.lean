/- fields: Set. Own work of this seat; no condition but on lengths. -/
import Derived.Test.YtcpblhcpjjpffaaDoorFie6
namespace Go.Proofs.YtcpblhcpjjpffaaDoor.Fie
open Go.RowKit Go.Proofs.YtcpblhcpjjpffaaDoor.Kit Go.Proofs.YtcpblhcpjjpffaaDoor.Oct Go.Proofs.YtcpblhcpjjpffaaDoor.Cut
set_option linter.unusedVariables false
set_option linter.unusedSimpArgs false

theorem FRd.take {w : World} {A : Option Addr} {n i : Nat} {l : List Fd} (h : FRd w A n l) (hi : i ≤ n) : FRd w A i (l.take i) := by
  have hl := h.len
  refine ⟨by rw [fdcs_length, List.length_take]; omega, fun j v hj => ?_⟩
  rw [← fdcs_take, List.getElem?_take] at hj
  split at hj
  · exact h.2 j v hj
  · cases hj
set_option maxRecDepth 100000 in
/-- s[i:] of a row that is read. -/
theorem frd_drop {w : World} {A : Option Addr} {n c i : Nat} {l : List Fd} (h : FRd w A n l) (hc : n ≤ c) (hi : i ≤ n) :
    ∃ A', (∀ wx, (Instr.slice 38 (.slice A n c) (some (.int .i64 (i : Int))) none none).run Tryd.prog wx = .ok (.slice A' (n - i) (c - i)) wx) ∧ FRd w A' (n - i) (l.drop i) ∧ blockOf A' = blockOf A := by
  obtain ⟨A', h1, h2, h3⟩ := rseg_drop (P := Tryd.prog) (t := 38) (k := 2) Tryd.underlying38 Tryd.sizeOf25 h hc hi
  exact ⟨A', h1, by unfold FRd; rw [← fdcs_drop]; exact h2, h3⟩
/-- append at a step of a region that draws its order, out of its run's equation. -/
theorem step_app {P : Program} {ops : Array Oper} {o : Oper} {a : Act} {w w' : World} {K : Act → World → Prop} {Q : Exit → Act → World → Prop} {E : Prop} (hgd : o.guard = none) (s x : Operand) (t : TypeId)
    (ho : o.op = .call { callee := .builtin .append, args := #[s, x], argTypes := #[t, t] }) {vs vx v : Value} (hs : a.eval s = vs) (hx : a.eval x = vx) (hr : (Builtin.append_ #[t, t] o.type #[vs, vx]).run P w = .ok v w') (h : K (a.put o.dst v) w') :
    if Region.wanted o (yielded ops a.tmps) = true then Oper.wp P o a w K Q else E := by
  have hw : Region.wanted o (yielded ops a.tmps) = true := by simp [Region.wanted, hgd]
  rw [if_pos hw]
  unfold Oper.wp execOp
  simp only [ho, resolve, invoke, builtin, Sem.run_bind, Sem.run_pure, Result.andThen_ok, List.map_toArray, List.map_cons, List.map_nil, hs, hx, hr]
  exact h

theorem srd_one {w : World} {b : Nat} {T : TypeId} {s : ByteArray} (h : Blk w b T [.string s]) : SRd w (some ⟨b, 0, none⟩) 1 [s] := by
  refine ⟨rfl, fun j v hj => ⟨b, 0, rfl, ?_⟩⟩
  rw [Nat.zero_add]
  exact h.cell hj
/-- append of one field whose block lies anywhere. -/
theorem app_fd_any {W : World} {B : Option Addr} {m cB b : Nat} {l : List Fd} (hB : FW W 25 B m cB l) (hb : m + 1 ≤ 1000000) (x : Fd) (hE : Blk W b 25 [.string x.nm, .string x.vl]) :
    ∃ B' c' w', (Builtin.append_ #[38, 38] 38 #[.slice B m cB, .slice (some ⟨b, 0, none⟩) 1 1]).run Tryd.prog W = .ok (.slice B' (m + 1) c') w' ∧ FW w' 25 B' (m + 1) c' (l ++ [x]) ∧ (blockOf B' = blockOf B ∨ ∃ k, blockOf B' = some k ∧ W.heap.size ≤ k) ∧ Step (fun k => blockOf B = some k) W w' := by
  obtain ⟨i0, hi0, hz0, hs0, hy0⟩ := i0fd
  obtain ⟨B5, c5, w5, hap, hB6, hs5, hn5⟩ := run_app_one (k := 2) (v := fdc x) 38 25 Tryd.underlying38 hi0 hz0 rfl hs0 hy0 (by omega) hB rfl (fdc_cell x) hE hb
  exact ⟨B5, c5, w5, hap, by unfold FW; rw [fdcs_append, fdcs_one]; exact hB6, hn5, hs5⟩
def setF (l : List Fd) (s v : ByteArray) : List Fd := match l.findIdx? (fun x => sameN x.nm s) with
  | none => l ++ [⟨s, v⟩]
  | some i => (l.take i ++ [⟨s, v⟩]) ++ dropF (l.drop (i + 1)) [s]
set_option maxRecDepth 100000 in
set_option maxHeartbeats 4000000 in
theorem set_calls {w : World} {A : Option Addr} {n c : Nat} {l : List Fd} (h : FRd w A n l) (hA : ∀ k, blockOf A = some k → k < w.heap.size) (hc : n ≤ c) (hn : n + 1 ≤ 1000000) (hl : Sml l) (s v : ByteArray) (hs : s.size ≤ 1000000) :
    Calls Tryd.prog 36 #[.slice A n c, .string s, .string v] w fun e w' => ∃ A' k c', e = .returned (.slice A' k c') ∧ FW w' 25 A' k c' (setF l s v) ∧ Step (fun _ => False) w w' ∧ (∀ k, blockOf A' = some k → w.heap.size ≤ k) := by
  have hln := h.len
  have HIX := Lib.hid (fun w' xb (hs' : Step (fun _ => False) w w') (hX : Blk w' xb 9 [.string s]) => ixf_calls (c := c) (g := 67) (xb := xb) (h.same hs') (by omega) (fun x => sameN x.nm s) eg67 (fun W hW x hx => set1_calls (hX.keep hW (fun h => h)) hs x (hl x hx).1))
  have HH := Lib.hid (fun w' (hs' : Step (fun _ => False) w w') => h.same hs')
  have HL := Lib.hid hl
  unfold setF
  cases hf : l.findIdx? (fun x => sameN x.nm s) with
  | none =>
    rw [hf] at HIX
    simp only [ixOf] at HIX ⊢
    have HAD := Lib.hid (fun w' (hs' : Step (fun _ => False) w w') => add_calls (c := c) (h.same hs') hn s v)
    clear h hl hf hA
    go_enter Tryd.func36, Tryd.ntmps36
    go_upto_region 1 with (fail)
    refine alloc_next (cs := [.string s]) ?_
    intro w1 hX hs1
    have HX := Lib.hid hX
    have x0 := hX.cell (i := 0) rfl
    clear hX
    obtain ⟨xb, hxb⟩ : ∃ xb, w.heap.size = xb := ⟨_, rfl⟩
    rw [hxb] at HX x0 ⊢
    go_upto_region 2 with (go_at_call 66; refine (HIX.out _ _ hs1 HX.out).mono ?_; rintro e w2 ⟨rfl, hs2⟩)
    clear x0
    have x0 := (HX.out.keep hs2 (fun h => h)).cell (i := 0) rfl
    go_wp2_with (go_at_call 38; refine (HAD.out _ (hs1.same hs2)).mono ?_; rintro e w3 ⟨A3, c3, rfl, hF3, hs3, hf3⟩)
    go_ret
    have hz := (hs1.same hs2).size
    exact ⟨A3, _, c3, rfl, hF3, (hs1.same hs2).same hs3, fun k hk => by have := hf3 k hk; omega⟩
  | some i =>
    rw [hf] at HIX
    simp only [ixOf] at HIX ⊢
    have hil : i < n := by
      rw [List.findIdx?_eq_some_iff_getElem] at hf
      obtain ⟨h1, _⟩ := hf
      omega
    have HCL := Lib.hid (fun w' (hs' : Step (fun _ => False) w w') => clone_calls (c := c) ((h.same hs').take (show i ≤ n by omega)) (by omega))
    obtain ⟨a, rfl⟩ : ∃ a, A = some a := by
      obtain ⟨g, o, e⟩ := RSeg.isSome h (by omega) (by omega)
      exact ⟨_, e⟩
    obtain ⟨A5, hsl5, hR5, hb5⟩ := frd_drop h hc (show i + 1 ≤ n by omega)
    have hA5 : A5 ≠ none := fun e => by subst e; cases hb5
    have HR5 := Lib.hid hR5
    have c1 : (i : Int) ≤ (c : Int) := by omega
    have c2 : ((i : Int) < 0) = False := eq_false (by omega)
    have hw : IntKind.i64.wrap ((i : Int) + 1) = (i : Int) + 1 := by rw [IntKind.wrap_i64]; omega
    simp only [Int.natCast_add, Int.natCast_one] at hsl5
    have HAB := Lib.hid hA
    clear h hl hf hR5 hb5 hA
    go_enter Tryd.func36, Tryd.ntmps36
    go_upto_region 1 with (fail)
    refine alloc_next (cs := [.string s]) ?_
    intro w1 hX hs1
    have HX := Lib.hid hX
    have x0 := hX.cell (i := 0) rfl
    clear hX
    obtain ⟨xb, hxb⟩ : ∃ xb, w.heap.size = xb := ⟨_, rfl⟩
    rw [hxb] at HX x0 ⊢
    go_upto_region 5 with (first | (go_at_call 66; refine (HIX.out _ _ hs1 HX.out).mono ?_; rintro e w2 ⟨rfl, hs2⟩) | (go_at_call 53; refine (HCL.out _ (hs1.same hs2)).mono ?_; rintro e w3 ⟨A3, c3, rfl, hF3, hs3, hf3, hnn3⟩))
    have hst3 := (hs1.same hs2).same hs3
    have hX3 := (HX.out.keep hs2 (fun h => h)).keep hs3 (fun h => h)
    obtain ⟨g3, rfl⟩ := hF3.own (hnn3 (by simp))
    clear x0
    have x0 := hX3.cell (i := 0) rfl
    have HSX := Lib.hid (fun w' (hs' : Step (fun _ => False) w3 w') => (hX3.keep hs' (fun h => h)).cell (i := 0) rfl)
    have e1 := ((blk_new w3 [.string s, .string v] 25)).drew
    have e2 := ((blk_new w3 [.string s, .string v] 25).alloc (.cells #[.string s] 9)).drew
    have e3 := ((blk_new (w3.alloc (.cells #[.string s] 9)) [.string s, .string v] 25)).drew
    have hza : (w3.alloc (.cells #[.string s] 9)).heap.size = w3.heap.size + 1 := by show (w3.heap.push _).size = _; simp
    rw [hza] at e3
    obtain ⟨B1, d1, v1, hap1, hG1, hn1, ht1⟩ := app_fd_any (hF3.keep (((Step.refl _ w3).alloc (.cells #[.string s, .string v] 25)).drew) (fun _ _ h => h)) (by omega) ⟨s, v⟩ e1
    obtain ⟨b1, rfl⟩ := FSeg.isSome hG1 (by omega)
    have hv1 : Step (fun _ => False) w v1 := (hst3.same (((Step.refl _ w3).alloc (.cells #[.string s, .string v] 25)).drew)).trans ht1 (fun j hj h => by have := hf3 _ h; have := (hs1.same hs2).size; omega)
    obtain ⟨B2, d2, v2, hap2, hG2, hn2, ht2⟩ := app_fd_any (hF3.keep ((((Step.refl _ w3).alloc (.cells #[.string s, .string v] 25)).alloc (.cells #[.string s] 9)).drew) (fun _ _ h => h)) (by omega) ⟨s, v⟩ e2
    obtain ⟨b2, rfl⟩ := FSeg.isSome hG2 (by omega)
    have hv2 : Step (fun _ => False) w v2 := (hst3.same ((((Step.refl _ w3).alloc (.cells #[.string s, .string v] 25)).alloc (.cells #[.string s] 9)).drew)).trans ht2 (fun j hj h => by have := hf3 _ h; have := (hs1.same hs2).size; omega)
    obtain ⟨B3, d3, v3, hap3, hG3, hn3, ht3⟩ := app_fd_any (hF3.keep ((((Step.refl _ w3).alloc (.cells #[.string s] 9)).alloc (.cells #[.string s, .string v] 25)).drew) (fun _ _ h => h)) (by omega) ⟨s, v⟩ e3
    obtain ⟨b3, rfl⟩ := FSeg.isSome hG3 (by omega)
    have hv3 : Step (fun _ => False) w v3 := (hst3.same ((((Step.refl _ w3).alloc (.cells #[.string s] 9)).alloc (.cells #[.string s, .string v] 25)).drew)).trans ht3 (fun j hj h => by have := hf3 _ h; have := (hs1.same hs2).size; omega)
    have hg3 : g3 < w3.heap.size := FSeg.lt hF3 rfl
    have hb2 : Blk v2 (w3.heap.size + 1) 9 [.string s] := by
      have hz : (w3.alloc (.cells #[.string s, .string v] 25)).heap.size = w3.heap.size + 1 := by show (w3.heap.push _).size = _; simp
      have h := (blk_new (w3.alloc (.cells #[.string s, .string v] 25)) [.string s] 9).drew
      rw [hz] at h
      exact h.keep ht2 (fun e => by have : g3 = w3.heap.size + 1 := Option.some.inj e; omega)
    have hb3 : Blk v3 w3.heap.size 9 [.string s] := ((blk_new w3 [.string s] 9).alloc (.cells #[.string s, .string v] 25)).drew.keep ht3 (fun e => by have : g3 = w3.heap.size := Option.some.inj e; omega)
    have HDR := Lib.hid (fun W nb (hW : Step (fun _ => False) w W) (hN : Blk W nb 9 [.string s]) => drop_calls (c := c - (i + 1)) (cN := 1) (HR5.out.same hW) (by omega) (srd_one hN) (by omega) (fun x hx => by obtain rfl := List.mem_singleton.1 hx; exact hs) (fun x hx => HL.out x (List.mem_of_mem_drop hx)))
    have HG1 := Lib.hid hG1
    have HG2 := Lib.hid hG2
    have HG3 := Lib.hid hG3
    have hzw := hst3.size
    have hx1 : Step (· = g3) w3 v1 := ((((Step.refl _ w3).alloc (.cells #[.string s, .string v] 25)).drew : Step (fun _ => False) w3 _).mono (fun _ _ h => h.elim)).same (ht1.mono (fun k _ e => (Option.some.inj e).symm))
    have hx2 : Step (· = g3) w3 v2 := (((((Step.refl _ w3).alloc (.cells #[.string s, .string v] 25)).alloc (.cells #[.string s] 9)).drew : Step (fun _ => False) w3 _).mono (fun _ _ h => h.elim)).same (ht2.mono (fun k _ e => (Option.some.inj e).symm))
    have hx3 : Step (· = g3) w3 v3 := (((((Step.refl _ w3).alloc (.cells #[.string s] 9)).alloc (.cells #[.string s, .string v] 25)).drew : Step (fun _ => False) w3 _).mono (fun _ _ h => h.elim)).same (ht3.mono (fun k _ e => (Option.some.inj e).symm))
    have hxg : xb ≠ g3 := fun e => by have := hf3 g3 rfl; have := (hs1.same hs2).size; have := HX.out.lt; have := hs2.size; omega
    have HSX := Lib.hid (fun w' (hs' : Step (· = g3) w3 w') => (hX3.keep hs' (fun h => hxg h)).cell (i := 0) rfl)
    have hr3 : Step (· = g3) w3 w3 := Step.refl _ _
    clear hn1 hn2 hn3 ht1 ht2 ht3 hG1 hG2 hG3 e1 e2 e3 hF3 hza
    go_region_held3 (fun w' => w'.cell? ⟨xb, 0, none⟩ = some (.string s)) (with_reducible refine HSX.out _ ?_; with_reducible first
        | exact hx7
        | exact hx5
        | exact hr3.drew
        | exact hx5.alloc _
        | exact hx1
        | exact hx1.alloc _
        | exact hx2
        | exact hx3
        | exact (hr3.alloc _).drew
        | exact ((hr3.alloc _).alloc _).drew)
      (first
        | (refine step_app (vs := .slice (some ⟨g3, 0, none⟩) i c3) (vx := .slice (some ⟨w3.heap.size, 0, none⟩) 1 1) (by rfl) (.tmp 22) (.tmp 26) 38 (by rfl) (by rfl) (by rfl) (by with_reducible first | exact hap1 | exact hap2) ?_)
        | (refine step_app (vs := .slice (some ⟨g3, 0, none⟩) i c3) (vx := .slice (some ⟨w3.heap.size + 1, 0, none⟩) 1 1) (by rfl) (.tmp 22) (.tmp 26) 38 (by rfl) (by rfl) (by rfl) (by with_reducible first | exact hap3) ?_)
        | (go_at_call 20; with_reducible refine (HDR.out (v1.alloc (.cells #[.string s] 9)) v1.heap.size (hv1.alloc _) (blk_new v1 [.string s] 9)).mono ?_; rintro e5 w5 ⟨A6, k6, c6, rfl, hF6, hs5, hf6, hnn6⟩; obtain ⟨g6, rfl⟩ := hF6.own (hnn6 hA5); have hk6 := hF6.len; have hk6' : k6 ≤ n - (i + 1) := (by rw [← hk6]; unfold dropF; exact Nat.le_trans (List.length_filter_le _ _) (by rw [List.length_drop]; omega)); have hv5 : Step (fun _ => False) w w5 := (by first | with_reducible exact hv2.same hs5 | with_reducible exact hv3.same hs5 | with_reducible exact (hv1.alloc _).same hs5); have hx5 : Step (· = g3) w3 w5 := (by first | with_reducible exact hx2.same (hs5.mono (fun _ _ h => h.elim)) | with_reducible exact hx3.same (hs5.mono (fun _ _ h => h.elim)) | with_reducible exact (hx1.alloc _).same (hs5.mono (fun _ _ h => h.elim))))
        | (go_at_call 20; with_reducible refine (HDR.out v2 (w3.heap.size + 1) hv2 hb2).mono ?_; rintro e5 w5 ⟨A6, k6, c6, rfl, hF6, hs5, hf6, hnn6⟩; obtain ⟨g6, rfl⟩ := hF6.own (hnn6 hA5); have hk6 := hF6.len; have hk6' : k6 ≤ n - (i + 1) := (by rw [← hk6]; unfold dropF; exact Nat.le_trans (List.length_filter_le _ _) (by rw [List.length_drop]; omega)); have hv5 : Step (fun _ => False) w w5 := (by first | with_reducible exact hv2.same hs5 | with_reducible exact hv3.same hs5 | with_reducible exact (hv1.alloc _).same hs5); have hx5 : Step (· = g3) w3 w5 := (by first | with_reducible exact hx2.same (hs5.mono (fun _ _ h => h.elim)) | with_reducible exact hx3.same (hs5.mono (fun _ _ h => h.elim)) | with_reducible exact (hx1.alloc _).same (hs5.mono (fun _ _ h => h.elim))))
        | (go_at_call 20; with_reducible refine (HDR.out v3 w3.heap.size hv3 hb3).mono ?_; rintro e5 w5 ⟨A6, k6, c6, rfl, hF6, hs5, hf6, hnn6⟩; obtain ⟨g6, rfl⟩ := hF6.own (hnn6 hA5); have hk6 := hF6.len; have hk6' : k6 ≤ n - (i + 1) := (by rw [← hk6]; unfold dropF; exact Nat.le_trans (List.length_filter_le _ _) (by rw [List.length_drop]; omega)); have hv5 : Step (fun _ => False) w w5 := (by first | with_reducible exact hv2.same hs5 | with_reducible exact hv3.same hs5 | with_reducible exact (hv1.alloc _).same hs5); have hx5 : Step (· = g3) w3 w5 := (by first | with_reducible exact hx2.same (hs5.mono (fun _ _ h => h.elim)) | with_reducible exact hx3.same (hs5.mono (fun _ _ h => h.elim)) | with_reducible exact (hx1.alloc _).same (hs5.mono (fun _ _ h => h.elim))))
        | (go_at_call 68; have hg5 : FW w5 25 (some ⟨b2, 0, none⟩) (i + 1) d2 (l.take i ++ [⟨s, v⟩]) := (by with_reducible exact HG2.out.keep hs5 (fun _ _ h => h)); have hbk := blk_new w5 [Value.slice (some ⟨b2, 0, none⟩) (i + 1) d2, Value.slice (some ⟨g6, 0, none⟩) k6 c6] 38; have hal5 : Step (fun _ => False) w5 (w5.alloc (.cells ([Value.slice (some ⟨b2, 0, none⟩) (i + 1) d2, Value.slice (some ⟨g6, 0, none⟩) k6 c6]).toArray 38)) := (Step.refl (fun _ => False) w5).alloc _; have hga := hg5.keep hal5 (fun _ _ h => h); have hgb := hF6.keep hal5 (fun _ _ h => h); have hcc := concat_calls (l := l.take i ++ [⟨s, v⟩]) (r := dropF (l.drop (i + 1)) [s]) hbk hga hgb (by omega) (by omega); with_reducible refine hcc.mono ?_; rintro e7 w7 ⟨A7, c7, rfl, hF7, hs7, hf7⟩; have hst7 : Step (fun _ => False) w w7 := (hv5.same hal5).same hs7; have hx7 : Step (· = g3) w3 w7 := (hx5.same (hal5.mono (fun _ _ h => h.elim))).same (hs7.mono (fun _ _ h => h.elim)); have hfin : ∀ k, blockOf A7 = some k → w.heap.size ≤ k := fun k hk => Nat.le_trans (hv5.same hal5).size (hf7 k hk))
        | (go_at_call 68; have hg5 : FW w5 25 (some ⟨b3, 0, none⟩) (i + 1) d3 (l.take i ++ [⟨s, v⟩]) := (by with_reducible exact HG3.out.keep hs5 (fun _ _ h => h)); have hbk := blk_new w5 [Value.slice (some ⟨b3, 0, none⟩) (i + 1) d3, Value.slice (some ⟨g6, 0, none⟩) k6 c6] 38; have hal5 : Step (fun _ => False) w5 (w5.alloc (.cells ([Value.slice (some ⟨b3, 0, none⟩) (i + 1) d3, Value.slice (some ⟨g6, 0, none⟩) k6 c6]).toArray 38)) := (Step.refl (fun _ => False) w5).alloc _; have hga := hg5.keep hal5 (fun _ _ h => h); have hgb := hF6.keep hal5 (fun _ _ h => h); have hcc := concat_calls (l := l.take i ++ [⟨s, v⟩]) (r := dropF (l.drop (i + 1)) [s]) hbk hga hgb (by omega) (by omega); with_reducible refine hcc.mono ?_; rintro e7 w7 ⟨A7, c7, rfl, hF7, hs7, hf7⟩; have hst7 : Step (fun _ => False) w w7 := (hv5.same hal5).same hs7; have hx7 : Step (· = g3) w3 w7 := (hx5.same (hal5.mono (fun _ _ h => h.elim))).same (hs7.mono (fun _ _ h => h.elim)); have hfin : ∀ k, blockOf A7 = some k → w.heap.size ≤ k := fun k hk => Nat.le_trans (hv5.same hal5).size (hf7 k hk))
        | (go_at_call 68; have hg5 : FW w5 25 (some ⟨b1, 0, none⟩) (i + 1) d1 (l.take i ++ [⟨s, v⟩]) := (by with_reducible exact (HG1.out.keep ((Step.refl (fun _ => False) v1).alloc _) (fun _ _ h => h)).keep hs5 (fun _ _ h => h)); have hbk := blk_new w5 [Value.slice (some ⟨b1, 0, none⟩) (i + 1) d1, Value.slice (some ⟨g6, 0, none⟩) k6 c6] 38; have hal5 : Step (fun _ => False) w5 (w5.alloc (.cells ([Value.slice (some ⟨b1, 0, none⟩) (i + 1) d1, Value.slice (some ⟨g6, 0, none⟩) k6 c6]).toArray 38)) := (Step.refl (fun _ => False) w5).alloc _; have hga := hg5.keep hal5 (fun _ _ h => h); have hgb := hF6.keep hal5 (fun _ _ h => h); have hcc := concat_calls (l := l.take i ++ [⟨s, v⟩]) (r := dropF (l.drop (i + 1)) [s]) hbk hga hgb (by omega) (by omega); with_reducible refine hcc.mono ?_; rintro e7 w7 ⟨A7, c7, rfl, hF7, hs7, hf7⟩; have hst7 : Step (fun _ => False) w w7 := (hv5.same hal5).same hs7; have hx7 : Step (· = g3) w3 w7 := (hx5.same (hal5.mono (fun _ _ h => h.elim))).same (hs7.mono (fun _ _ h => h.elim)); have hfin : ∀ k, blockOf A7 = some k → w.heap.size ≤ k := fun k hk => Nat.le_trans (hv5.same hal5).size (hf7 k hk)))
    all_goals
      go_wp2
      go_ret
      exact ⟨A7, _, c7, rfl, hF7, hst7, hfin⟩
end Go.Proofs.YtcpblhcpjjpffaaDoor.Fie
