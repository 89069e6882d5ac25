/- The walk of stewardlaw06.FieldsSame. Own work of this seat. -/
import Derived.Test.YtcpblhcpjjpffaaDoorFie10
import Derived.Test.YtcpblhcpjjpffaaDoorBase
import Derived.Deep.CutRange
import Derived.Deep.CutBlock
namespace Go.Proofs.YtcpblhcpjjpffaaDoor.Fie
open Go.RowKit Go.Proofs.YtcpblhcpjjpffaaDoor.Kit Go.Proofs.YtcpblhcpjjpffaaDoor.Oct Go.Proofs.YtcpblhcpjjpffaaDoor.Cut Go.Proofs.YtcpblhcpjjpffaaDoorW.PrintWords Go.Proofs.YtcpblhcpjjpffaaDoor
set_option linter.unusedVariables false
set_option linter.unusedSimpArgs false

def kFd : Kd Fd := Kd.iso (Kd.pair Kd.string Kd.string) (fun x : Fd => (x.nm, x.vl))
theorem kFd_open {w : World} {x : Fd} {cs : List Value} (h : kFd.K w x cs) : cs = [.string x.nm, .string x.vl] := by
  obtain ⟨_, _, rfl, rfl, rfl⟩ := h
  rfl
def zFd : Fd := ⟨⟨#[]⟩, ⟨#[]⟩⟩
theorem cell_lt6 {w : World} {p : Addr} {v : Value} (h : w.cell? p = some v) : p.block < w.heap.size := by
  rcases Nat.lt_or_ge p.block w.heap.size with hl | hl
  · exact hl
  · unfold World.cell? at h
    rw [Array.getElem?_eq_none hl] at h
    simp at h
theorem cell_bel6 {w w' : World} {p : Addr} {v : Value} (h : w.cell? p = some v) (hb : Below w.heap.size w w') : w'.cell? p = some v := by
  rw [hb.cell (cell_lt6 h)]; exact h
theorem ard_of {w : World} {A : Option Addr} {l : List Fd} (h : Kd.C kFd w A l.length l) : ARd w A l.length l := by
  refine ⟨rfl, fun i x hx => ?_⟩
  have hi := (List.getElem?_eq_some_iff.1 hx).1
  obtain ⟨ad, c, e, _, hK, hc0⟩ := Kd.C_get h zFd (i : Int) (by omega) (by omega)
  have hc : ∀ j u, c[j]? = some u → w.cell? (ad.add (i * 2 + j)) = some u := hc0
  have hx2 : l.getD i zFd = x := by rw [List.getD_eq_getElem?_getD, hx]; rfl
  obtain rfl := kFd_open hK
  refine ⟨ad, e, fun w' hb => ?_⟩
  rw [← hx2]
  exact ⟨cell_bel6 (hc 0 _ rfl) hb, cell_bel6 (by rw [← add_field _ _ 1 (by omega)]; exact hc 1 _ rfl) hb⟩
theorem eqRf (x y : Fd) (w : World) : (binOp .eql 29 (.agg #[.string x.nm, .string x.vl]) (.agg #[.string y.nm, .string y.vl])).run Tryd.prog w = .ok (.bool (eqF x y)) w := by
  have u9 := Tryd.underlying9
  have a9 := Tryd.isAgg9
  have z9 := Tryd.sizeOf9
  have hS : Tryd.prog.underlying 29 = some (.struct (Tryd.prog.fieldsOf 29)) := by kernel_rfl
  have hp : Tryd.prog.stoodInHeld 29 = false := by kernel_rfl
  obtain ⟨a, b⟩ := x
  obtain ⟨c, d⟩ := y
  unfold eqF
  rw [run_eql_struct, show (10000 : Nat) = 9999 + 1 from rfl, run_equalIn_agg w 9999 29 _ _ hS hp]
  simp only [Program.fieldsOf, Tryd.underlying29]
  go_simp
  cases h1 : (a.toList == c.toList) <;> cases h2 : (b.toList == d.toList) <;> simp_all
set_option maxRecDepth 100000 in
set_option maxHeartbeats 4000000 in
theorem same_law (A0 : Option Addr) (c0 : Nat) (l : List Fd) (A1 : Option Addr) (c1 : Nat) (r : List Fd) (w : World) (h0 : Kd.C kFd w A0 l.length l) (hc0 : l.length ≤ c0) (hg0 : ∀ x ∈ l, x.nm.size ≤ 9223372036854775807 ∧ x.vl.size ≤ 9223372036854775807) (h1 : Kd.C kFd w A1 r.length r) (hc1 : r.length ≤ c1) (hg1 : ∀ x ∈ r, x.nm.size ≤ 9223372036854775807 ∧ x.vl.size ≤ 9223372036854775807) :
    Calls Tryd.prog 5 #[.slice A0 l.length c0, .slice A1 r.length c1] w fun e w' => e = .returned (.bool true) ∧ Below w.heap.size w w' := by
  have hf0 : ∀ w', Below w.heap.size w w' → Calls Tryd.prog 15 #[.slice A0 l.length c0, .int .i64 8] w' (fun e w'' => ∃ A' m c', e = .returned (.slice A' m c') ∧ m ≤ 8 ∧ FW w'' 29 A' m c' (fewF l 8) ∧ Step (fun _ => False) w' w'' ∧ (∀ j, blockOf A' = some j → w'.heap.size ≤ j)) := fun w' hb => few_calls (k := 8) (ard_of h0) hb hc0 (by omega) hg0
  have HF0 := Lib.hid hf0
  clear hf0
  have hf1 : ∀ w', Below w.heap.size w w' → Calls Tryd.prog 15 #[.slice A1 r.length c1, .int .i64 8] w' (fun e w'' => ∃ A' m c', e = .returned (.slice A' m c') ∧ m ≤ 8 ∧ FW w'' 29 A' m c' (fewF r 8) ∧ Step (fun _ => False) w' w'' ∧ (∀ j, blockOf A' = some j → w'.heap.size ≤ j)) := fun w' hb => few_calls (k := 8) (ard_of h1) hb hc1 (by omega) hg1
  have HF1 := Lib.hid hf1
  clear hf1
  clear h0 h1 hg0 hg1
  generalize fewF l 8 = x at *
  generalize fewF r 8 = y at *
  generalize l.length = n0 at *
  generalize r.length = n1 at *
  go_enter Tryd.func5, Tryd.ntmps5
  go_upto_region 4 with (first
    | (go_at_call 10; refine (awake_calls _).mono ?_; rintro e0 w1 ⟨rfl, hs1⟩)
    | (go_at_call 15; with_reducible refine (HF0.out _ (hs1.below (Nat.le_refl _) (fun _ h => h.elim))).mono ?_; rintro e2 w2 ⟨X, m, cX, rfl, hm8, hX, hs2, hfX⟩)
    | (go_at_call 15; with_reducible refine (HF1.out _ ((hs1.same hs2).below (Nat.le_refl _) (fun _ h => h.elim))).mono ?_; rintro e3 w3 ⟨Y, q, cY, rfl, hq8, hY, hs3, hfY⟩))
  have hst3 := (hs1.same hs2).same hs3
  have hX3 := (hX.keep hs3 (fun _ _ h => h)).rd
  have hXl : ∀ k, blockOf X = some k → k < w3.heap.size := fun k hk => FSeg.lt (hX.keep hs3 (fun _ _ h => h)) hk
  have hYl : ∀ k, blockOf Y = some k → k < w3.heap.size := fun k hk => FSeg.lt hY hk
  have hY3 := hY.rd
  have hxl := hX3.len
  have hyl := hY3.len
  have HX := Lib.hid hX3
  have HY := Lib.hid hY3
  have HXL := Lib.hid hXl
  have HYL := Lib.hid hYl
  clear hX hY hX3 hY3 hXl hYl hs1 hs2 hs3 hfX hfY HF0 HF1
  obtain ⟨bb, hbb⟩ : ∃ bb, beqL x y = bb := ⟨_, rfl⟩
  have HBB := Lib.hid hbb
  clear hbb
  go_upto_block 0 with fail
  go_cut [7, 8] from 9 to 51 (fun s7 s8 wx => s7 = .bool bb ∧ Step (fun _ => False) w3 wx)
  case first =>
    go_wp2_with fail
    go_loopw [7, 8] (fun v7 v8 wr => ∃ (i : Nat) (b : Bool), v8 = .int .i64 (i : Int) ∧ v7 = .bool b ∧ i ≤ m ∧ (b = true → m = q ∧ ∀ (j : Nat) (u v : Fd), j < i → x[j]? = some u → y[j]? = some v → eqF u v = true) ∧ (b = false → x ≠ y) ∧ Step (fun _ => False) w3 wr) (fun _ v _ => m - (intOf v).toNat)
    case atStart =>
      refine ⟨0, decide (m = q), rfl, ?_, Nat.zero_le _, fun h => ⟨by simpa using h, fun j u v hj => absurd hj (Nat.not_lt_zero _)⟩, fun h e => by rw [e] at hxl; simp at h; omega, Step.refl _ _⟩
      by_cases e : m = q
      · subst e; simp
      · have e' : ¬ (m : Int) = (q : Int) := by omega
        simp [e, e']
    case round =>
      obtain ⟨i, b, rfl, rfl, hi, ht, hf, hst⟩ := hrel
      cases b with
      | true =>
        obtain ⟨hmq, hall⟩ := ht rfl
        by_cases hin : i < m
        · have hin' : ((i : Int) < (m : Int)) := by omega
          have hiq' : ((i : Int) < (q : Int)) := by omega
          have hX := HX.out.same hst
          have hY := HY.out.same hst
          obtain ⟨gX, oX, rfl⟩ := RSeg.isSome hX (by omega) (by omega)
          obtain ⟨gY, oY, rfl⟩ := RSeg.isSome hY (by omega) (by omega)
          have hgx : x[i]? = some x[i] := List.getElem?_eq_getElem (by omega)
          have hgy : y[i]? = some y[i] := List.getElem?_eq_getElem (by omega)
          obtain ⟨a0, a1⟩ := FRd.cells hX hgx
          obtain ⟨b0, b1⟩ := FRd.cells hY hgy
          have hq := fun w => eqRf x[i] y[i] w
          have HGX := Lib.hid hgx
          have HGY := Lib.hid hgy
          have HALL := Lib.hid hall
          generalize x[i] = u at *
          generalize y[i] = v at *
          obtain ⟨u0, u1⟩ := u
          obtain ⟨v0, v1⟩ := v
          simp only at a0 a1 b0 b1 hq
          obtain ⟨bq, hbq⟩ : ∃ bq, eqF ⟨u0, u1⟩ ⟨v0, v1⟩ = bq := ⟨_, rfl⟩
          rw [hbq] at hq
          have HQ := Lib.hid hbq
          clear hX hY hgx hgy hall hbq ht hf HX HY HXL HYL
          go_upto_region 8 with (fail)
          go_region
          all_goals
            go_wp2
            go_roundw
            case rel =>
              refine ⟨i + 1, bq, by first | rfl | simp, rfl, by omega, fun hb => ⟨hmq, fun j u v hj hu hv => ?_⟩, fun hb e => ?_, by first | exact hst.drew | exact hst.same ((Step.refl _ _).drew)⟩
              · by_cases e : j = i
                · subst e
                  have h1 := HGX.out
                  have h2 := HGY.out
                  rw [h1] at hu
                  rw [h2] at hv
                  cases hu
                  cases hv
                  rw [HQ.out]; exact hb
                · exact HALL.out j u v (by omega) hu hv
              · have h1 := HGX.out
                rw [e, HGY.out] at h1
                have h2 := Option.some.inj h1
                have h3 := HQ.out
                rw [h2, (eqF_iff _ _).2 rfl, hb] at h3
                cases h3
            case measure =>
              simp only [intOf]
              omega
        · have hin' : ((i : Int) < (m : Int)) = False := eq_false (by omega)
          obtain rfl : true = bb := by rw [← HBB.out, beqL_true (by omega) (fun j u v hu hv => hall j u v (by have := (List.getElem?_eq_some_iff.1 hu).1; omega) hu hv)]
          clear hall ht hf HBB
          subst hmq
          go_wp2
          go_meet
          exact ⟨rfl, hst⟩
      | false =>
        obtain rfl : false = bb := by rw [← HBB.out, beqL_false (hf rfl)]
        clear ht hf HBB
        by_cases hin : i < m
        · have hin' : ((i : Int) < (m : Int)) = True := eq_true (by omega)
          go_wp2
          go_meet
          exact ⟨rfl, hst⟩
        · have hin' : ((i : Int) < (m : Int)) = False := eq_false (by omega)
          go_wp2
          go_meet
          exact ⟨rfl, hst⟩
  case rest =>
    obtain ⟨rfl, hstc⟩ := hcut
    have HO1 := Lib.hid (fun w' (hs : Step (fun _ => False) w3 w') => own_calls (c := cX) (HX.out.same hs) (fun k hk => Nat.lt_of_lt_of_le (HXL.out k hk) hs.size) (by omega))
    have HO2 := Lib.hid (fun w' (hs : Step (fun _ => False) w3 w') => own_calls (c := cY) (HY.out.same hs) (fun k hk => Nat.lt_of_lt_of_le (HYL.out k hk) hs.size) (by omega))
    have HO3 := HO1
    have HO4 := HO1
    have hbt : beqL x x = true := (beqL_iff x x).2 rfl
    have HBT := Lib.hid hbt
    have HBX := HBB
    have hbb : (bb == bb) = true := by simp
    clear hbt
    go_wp2_with (first
      | (go_at_call 16; with_reducible refine (HO1.out _ hstc).mono ?_; clear HO1; rintro e4 w4 ⟨P4, d4, rfl, hP4, hs4, _⟩; have hq4 := hstc.same hs4)
      | (go_at_call 16; with_reducible refine (HO2.out _ hq4).mono ?_; clear HO2; rintro e5 w5 ⟨P5, d5, rfl, hP5, hs5, _⟩; have hq5 := hq4.same hs5)
      | (go_at_call 21; with_reducible refine (same_calls (hP4.keep hs5 (fun _ _ h => h)).rd hP5.rd (by omega) (by omega)).mono ?_; rw [HBX.out]; rintro e6 w6 ⟨rfl, hs6⟩; have hq6 := hq5.same hs6)
      | (go_at_call 16; with_reducible refine (HO3.out _ hq6).mono ?_; clear HO3; rintro e7 w7 ⟨P7, d7, rfl, hP7, hs7, _⟩; have hq7 := hq6.same hs7)
      | (go_at_call 16; with_reducible refine (HO4.out _ hq7).mono ?_; clear HO4; rintro e8 w8 ⟨P8, d8, rfl, hP8, hs8, _⟩; have hq8 := hq7.same hs8)
      | (go_at_call 21; with_reducible refine (same_calls (hP7.keep hs8 (fun _ _ h => h)).rd hP8.rd (by omega) (by omega)).mono ?_; rw [HBT.out]; rintro e9 w9 ⟨rfl, hs9⟩; have hq9 := hq8.same hs9))
    go_ret
    exact ⟨rfl, (hst3.same hq9).below (Nat.le_refl _) (fun _ h => h.elim)⟩
end Go.Proofs.YtcpblhcpjjpffaaDoor.Fie
