/- fields: Same, Add, Text. Own work of this seat; no condition but on lengths. -/
import Derived.Test.YtcpblhcpjjpffaaDoorFie3
import Derived.Test.YtcpblhcpjjpffaaDoorBuildL
import Derived.Laws.StructEq
namespace Go.Proofs.YtcpblhcpjjpffaaDoor.Fie
open Go.RowKit Go.Proofs.YtcpblhcpjjpffaaDoor.Kit Go.Proofs.YtcpblhcpjjpffaaDoor.Oct Go.Proofs.YtcpblhcpjjpffaaDoor.Cut
set_option linter.unusedVariables false
set_option linter.unusedSimpArgs false

def eqF (x y : Fd) : Bool := x.nm.toList == y.nm.toList && x.vl.toList == y.vl.toList
theorem eqFd (x y : Fd) (w : World) : (binOp .eql 25 (.agg #[.string x.nm, .string x.vl]) (.agg #[.string y.nm, .string y.vl])).run Tryd.prog w = .ok (.bool (eqF x y)) w := by
  have u9 := Tryd.underlying9
  have a9 := Tryd.isAgg9
  have z9 := Tryd.sizeOf9
  have hS : Tryd.prog.underlying 25 = some (.struct (Tryd.prog.fieldsOf 25)) := by kernel_rfl
  have hp : Tryd.prog.stoodInHeld 25 = false := by kernel_rfl
  obtain ⟨a, b⟩ := x
  obtain ⟨c, d⟩ := y
  unfold eqF
  rw [run_eql_struct, show (10000 : Nat) = 9999 + 1 from rfl, run_equalIn_agg w 9999 25 _ _ hS hp]
  simp only [Program.fieldsOf, Tryd.underlying25]
  go_simp
  cases h1 : (a.toList == c.toList) <;> cases h2 : (b.toList == d.toList) <;> simp_all
theorem neqFd (x y : Fd) (w : World) : (binOp .neq 25 (.agg #[.string x.nm, .string x.vl]) (.agg #[.string y.nm, .string y.vl])).run Tryd.prog w = .ok (.bool (!eqF x y)) w := by
  have u9 := Tryd.underlying9
  have a9 := Tryd.isAgg9
  have z9 := Tryd.sizeOf9
  have hS : Tryd.prog.underlying 25 = some (.struct (Tryd.prog.fieldsOf 25)) := by kernel_rfl
  have hp : Tryd.prog.stoodInHeld 25 = false := by kernel_rfl
  obtain ⟨a, b⟩ := x
  obtain ⟨c, d⟩ := y
  unfold eqF
  rw [run_neq_struct, show (10000 : Nat) = 9999 + 1 from rfl, run_equalIn_agg w 9999 25 _ _ hS hp]
  simp only [Program.fieldsOf, Tryd.underlying25]
  go_simp
  cases h1 : (a.toList == c.toList) <;> cases h2 : (b.toList == d.toList) <;> simp_all
theorem bl_eq (a b : ByteArray) : (a.toList == b.toList) = decide (a = b) := by
  by_cases h : a = b
  · subst h; simp
  · rw [decide_eq_false h]
    cases e : (a.toList == b.toList) with
    | false => rfl
    | true => exact absurd (toList_eq_of a b e) h
theorem eqF_iff (x y : Fd) : eqF x y = true ↔ x = y := by
  obtain ⟨a, b⟩ := x
  obtain ⟨c, d⟩ := y
  unfold eqF
  simp only [bl_eq, Bool.and_eq_true, decide_eq_true_eq, Fd.mk.injEq]
def beqL : List Fd → List Fd → Bool
  | [], [] => true
  | x :: l, y :: r => eqF x y && beqL l r
  | _, _ => false
theorem beqL_iff : ∀ (l r : List Fd), beqL l r = true ↔ l = r
  | [], [] => by simp [beqL]
  | [], _ :: _ => by simp [beqL]
  | _ :: _, [] => by simp [beqL]
  | x :: l, y :: r => by
    unfold beqL
    rw [Bool.and_eq_true, eqF_iff, beqL_iff l r, List.cons.injEq]
theorem beqL_true {l r : List Fd} (hl : l.length = r.length) (h : ∀ (j : Nat) (x y : Fd), l[j]? = some x → r[j]? = some y → eqF x y = true) : beqL l r = true := by
  rw [beqL_iff]
  apply List.ext_getElem hl
  intro i h1 h2
  exact (eqF_iff _ _).1 (h i _ _ (List.getElem?_eq_getElem h1) (List.getElem?_eq_getElem h2))
theorem beqL_false {l r : List Fd} (h : l ≠ r) : beqL l r = false := by
  cases e : beqL l r with
  | false => rfl
  | true => exact absurd ((beqL_iff l r).1 e) h
set_option maxRecDepth 100000 in
set_option maxHeartbeats 1000000 in
theorem equal_calls {w : World} {A B : Option Addr} {n c m cB : Nat} {l r : List Fd} (h : FRd w A n l) (k : FRd w B m r) (hn : n ≤ 1000000) (hm : m ≤ 1000000) :
    Calls Tryd.prog 57 #[.slice A n c, .slice B m cB] w fun e w' => e = .returned (.bool (beqL l r)) ∧ Step (fun _ => False) w w' := by
  have hl := h.len
  have hr := k.len
  have HA := Lib.hid h
  have HB := Lib.hid k
  obtain ⟨b, hb⟩ : ∃ b, beqL l r = b := ⟨_, rfl⟩
  rw [hb]
  have HR := Lib.hid hb
  clear h k hb
  by_cases e : n = m
  · subst e
    have hne : ((n : Int) != (n : Int)) = false := by simp
    go_enter Tryd.func57, Tryd.ntmps57
    go_wp2
    clear hne
    go_loopw [13] (fun v13 wr => ∃ (i : Nat), v13 = .int .i64 (i : Int) ∧ i ≤ n ∧ (∀ (j : Nat) (x y : Fd), j < i → l[j]? = some x → r[j]? = some y → eqF x y = true) ∧ Step (fun _ => False) w wr) (fun v _ => n - (intOf v).toNat)
    case atStart => exact ⟨0, rfl, Nat.zero_le _, fun j x y hj => absurd hj (Nat.not_lt_zero _), Step.refl _ _⟩
    case round =>
      obtain ⟨i, rfl, hi, hall, hst⟩ := hrel
      by_cases hin : i < n
      · have hin' : ((i : Int) < (n : Int)) := by omega
        have hA := HA.out.same hst
        have hB := HB.out.same hst
        obtain ⟨gA, oA, rfl⟩ := RSeg.isSome hA (by omega) (by omega)
        obtain ⟨gB, oB, rfl⟩ := RSeg.isSome hB (by omega) (by omega)
        have hgl : l[i]? = some l[i] := List.getElem?_eq_getElem (by omega)
        have hgr : r[i]? = some r[i] := List.getElem?_eq_getElem (by omega)
        obtain ⟨a0, a1⟩ := FRd.cells hA hgl
        obtain ⟨b0, b1⟩ := FRd.cells hB hgr
        have hq := fun w => neqFd l[i] r[i] w
        have HGL := Lib.hid hgl
        have HGR := Lib.hid hgr
        have HAL := Lib.hid hall
        generalize l[i] = x at *
        generalize r[i] = y at *
        obtain ⟨x0, x1⟩ := x
        obtain ⟨y0, y1⟩ := y
        simp only at a0 a1 b0 b1 hq
        clear hA hB hgl hgr hall HA HB
        cases hxy : eqF ⟨x0, x1⟩ ⟨y0, y1⟩ with
        | true =>
          rw [hxy] at hq
          have HXY := Lib.hid hxy
          clear hxy
          go_upto_region 6 with (fail)
          go_region
          all_goals
            go_wp2
            go_roundw
            case rel =>
              refine ⟨i + 1, by first | rfl | simp, by omega, fun j x y hj hx hy => ?_, by first | exact hst.drew | exact hst.same ((Step.refl _ _).drew)⟩
              by_cases e : j = i
              · subst e
                rw [HGL.out] at hx
                rw [HGR.out] at hy
                cases hx
                cases hy
                exact HXY.out
              · exact HAL.out j x y (by omega) hx hy
            case measure =>
              simp only [intOf]
              omega
        | false =>
          obtain rfl : false = b := by
            rw [← HR.out, beqL_false]
            intro e
            rw [e, HGR.out] at HGL
            have := Option.some.inj HGL.out
            rw [this, (eqF_iff _ _).2 rfl] at hxy
            cases hxy
          rw [hxy] at hq
          clear hxy HR
          go_upto_region 6 with (fail)
          go_region
          all_goals
            go_wp2
            go_ret
            exact ⟨rfl, by first | exact hst.drew | exact hst.same ((Step.refl _ _).drew)⟩
      · have hin' : ¬ ((i : Int) < (n : Int)) := by omega
        obtain rfl : true = b := by rw [← HR.out, beqL_true (by omega) (fun j x y hx hy => hall j x y (by have := (List.getElem?_eq_some_iff.1 hx).1; omega) hx hy)]
        clear hall HR
        go_wp2
        go_ret
        exact ⟨rfl, hst⟩
  · have hne : ((n : Int) != (m : Int)) = true := by simp; omega
    obtain rfl : false = b := by
      rw [← HR.out, beqL_false]
      intro e2
      rw [e2] at hl
      omega
    clear HR
    go_enter Tryd.func57, Tryd.ntmps57
    go_wp2
    go_ret
    exact ⟨rfl, Step.refl _ _⟩
theorem same_calls {w : World} {A B : Option Addr} {n c m cB : Nat} {l r : List Fd} (h : FRd w A n l) (k : FRd w B m r) (hn : n ≤ 1000000) (hm : m ≤ 1000000) :
    Calls Tryd.prog 21 #[.slice A n c, .slice B m cB] w fun e w' => e = .returned (.bool (beqL l r)) ∧ Step (fun _ => False) w w' := by
  have HE := Lib.hid (equal_calls (c := c) (cB := cB) h k hn hm)
  clear h k
  go_enter Tryd.func21, Tryd.ntmps21
  go_wp2_with (go_at_call 57; refine HE.out.mono ?_; rintro e w2 ⟨rfl, hs2⟩)
  go_ret
  exact ⟨rfl, hs2⟩
end Go.Proofs.YtcpblhcpjjpffaaDoor.Fie
