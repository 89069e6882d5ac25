/- law 06: Is. Own work of this seat; no condition but on lengths. -/
import Derived.Test.YtcpblhcpjjpffaaDoorRf6a
import Derived.Test.YtcpblhcpjjpffaaDoorFie4
namespace Go.Proofs.YtcpblhcpjjpffaaDoor.Fie
open Go.RowKit Go.Proofs.YtcpblhcpjjpffaaDoor.Kit Go.Proofs.YtcpblhcpjjpffaaDoor.Oct Go.Proofs.YtcpblhcpjjpffaaDoor.Cut
set_option linter.unusedVariables false
set_option linter.unusedSimpArgs false

theorem neqRf (x y : Fd) (w : World) : (binOp .neq 29 (.agg #[.string x.nm, .string x.vl]) (.agg #[.string y.nm, .string y.vl])).run Tryd.prog w = .ok (.bool (!eqF x y)) w := by
  have u9 := Tryd.underlying9
  have a9 := Tryd.isAgg9
  have z9 := Tryd.sizeOf9
  have hS : Tryd.prog.underlying 29 = some (.struct (Tryd.prog.fieldsOf 29)) := by kernel_rfl
  have hp : Tryd.prog.stoodInHeld 29 = false := by kernel_rfl
  obtain ⟨a, b⟩ := x
  obtain ⟨c, d⟩ := y
  unfold eqF
  rw [run_neq_struct, show (10000 : Nat) = 9999 + 1 from rfl, run_equalIn_agg w 9999 29 _ _ hS hp]
  simp only [Program.fieldsOf, Tryd.underlying29]
  go_simp
  cases h1 : (a.toList == c.toList) <;> cases h2 : (b.toList == d.toList) <;> simp_all
set_option maxRecDepth 100000 in
set_option maxHeartbeats 1000000 in
theorem lis_calls {w : World} {A B : Option Addr} {n c m cB : Nat} {l r : List Fd} (h : FRd w A n l) (k : FRd w B m r) (hn : n ≤ 1000000) (hm : m ≤ 1000000) :
    Calls Tryd.prog 19 #[.slice A n c, .slice B m cB] w fun e w' => e = .returned (.bool (beqL l r)) ∧ Step (fun _ => False) w w' := by
  have hl := h.len
  have hr := k.len
  have HA := Lib.hid h
  have HB := Lib.hid k
  obtain ⟨b, hb⟩ : ∃ b, beqL l r = b := ⟨_, rfl⟩
  rw [hb]
  have HR := Lib.hid hb
  clear h k hb
  by_cases e : n = m
  · subst e
    have hne : ((n : Int) != (n : Int)) = false := by simp
    go_enter Tryd.func19, Tryd.ntmps19
    go_wp2
    clear hne
    go_loopw [13] (fun v13 wr => ∃ (i : Nat), v13 = .int .i64 (i : Int) ∧ i ≤ n ∧ (∀ (j : Nat) (x y : Fd), j < i → l[j]? = some x → r[j]? = some y → eqF x y = true) ∧ Step (fun _ => False) w wr) (fun v _ => n - (intOf v).toNat)
    case atStart => exact ⟨0, rfl, Nat.zero_le _, fun j x y hj => absurd hj (Nat.not_lt_zero _), Step.refl _ _⟩
    case round =>
      obtain ⟨i, rfl, hi, hall, hst⟩ := hrel
      by_cases hin : i < n
      · have hin' : ((i : Int) < (n : Int)) := by omega
        have hA := HA.out.same hst
        have hB := HB.out.same hst
        obtain ⟨gA, oA, rfl⟩ := RSeg.isSome hA (by omega) (by omega)
        obtain ⟨gB, oB, rfl⟩ := RSeg.isSome hB (by omega) (by omega)
        have hgl : l[i]? = some l[i] := List.getElem?_eq_getElem (by omega)
        have hgr : r[i]? = some r[i] := List.getElem?_eq_getElem (by omega)
        obtain ⟨a0, a1⟩ := FRd.cells hA hgl
        obtain ⟨b0, b1⟩ := FRd.cells hB hgr
        have hq := fun w => neqRf l[i] r[i] w
        have HGL := Lib.hid hgl
        have HGR := Lib.hid hgr
        have HAL := Lib.hid hall
        generalize l[i] = x at *
        generalize r[i] = y at *
        obtain ⟨x0, x1⟩ := x
        obtain ⟨y0, y1⟩ := y
        simp only at a0 a1 b0 b1 hq
        clear hA hB hgl hgr hall HA HB
        cases hxy : eqF ⟨x0, x1⟩ ⟨y0, y1⟩ with
        | true =>
          rw [hxy] at hq
          have HXY := Lib.hid hxy
          clear hxy
          go_upto_region 6 with (fail)
          go_region
          all_goals
            go_wp2
            go_roundw
            case rel =>
              refine ⟨i + 1, by first | rfl | simp, by omega, fun j x y hj hx hy => ?_, by first | exact hst.drew | exact hst.same ((Step.refl _ _).drew)⟩
              by_cases e : j = i
              · subst e
                rw [HGL.out] at hx
                rw [HGR.out] at hy
                cases hx
                cases hy
                exact HXY.out
              · exact HAL.out j x y (by omega) hx hy
            case measure =>
              simp only [intOf]
              omega
        | false =>
          obtain rfl : false = b := by
            rw [← HR.out, beqL_false]
            intro e
            rw [e, HGR.out] at HGL
            have := Option.some.inj HGL.out
            rw [this, (eqF_iff _ _).2 rfl] at hxy
            cases hxy
          rw [hxy] at hq
          clear hxy HR
          go_upto_region 6 with (fail)
          go_region
          all_goals
            go_wp2
            go_ret
            exact ⟨rfl, by first | exact hst.drew | exact hst.same ((Step.refl _ _).drew)⟩
      · have hin' : ¬ ((i : Int) < (n : Int)) := by omega
        obtain rfl : true = b := by rw [← HR.out, beqL_true (by omega) (fun j x y hx hy => hall j x y (by have := (List.getElem?_eq_some_iff.1 hx).1; omega) hx hy)]
        clear hall HR
        go_wp2
        go_ret
        exact ⟨rfl, hst⟩
  · have hne : ((n : Int) != (m : Int)) = true := by simp; omega
    obtain rfl : false = b := by
      rw [← HR.out, beqL_false]
      intro e2
      rw [e2] at hl
      omega
    clear HR
    go_enter Tryd.func19, Tryd.ntmps19
    go_wp2
    go_ret
    exact ⟨rfl, Step.refl _ _⟩
end Go.Proofs.YtcpblhcpjjpffaaDoor.Fie
