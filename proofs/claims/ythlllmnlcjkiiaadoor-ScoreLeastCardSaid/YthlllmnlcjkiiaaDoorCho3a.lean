/- score.Least: the first one that none goes ahead of. Own work of this seat; no condition. -/
import Derived.Test.YthlllmnlcjkiiaaDoorCho1
namespace Go.Proofs.YthlllmnlcjkiiaaDoor.Cho
open Go.RowKit Go.Proofs.YthlllmnlcjkiiaaDoor.Kit Go.Proofs.YthlllmnlcjkiiaaDoor.Flo
set_option linter.unusedVariables false
set_option linter.unusedSimpArgs false

theorem wpList_app {P : Program} {ops : Array Oper} {rest : List Oper} {o : Oper} {a : Act} {w w' : World} {Q : Exit → Act → World → Prop} (hgd : o.guard = none) (s x : Operand) (t : TypeId)
    (ho : o.op = .call { callee := .builtin .append, args := #[s, x], argTypes := #[t, t] }) {vs vx v : Value} (hs : a.eval s = vs) (hx : a.eval x = vx) (hr : (Builtin.append_ #[t, t] o.type #[vs, vx]).run P w = .ok v w') (h : wpList P ops Q rest (a.put o.dst v) w') :
    wpList P ops Q (o :: rest) a w := by
  refine wpList_plain hgd fun K hK => ?_
  unfold Oper.wp execOp
  simp only [ho, resolve, invoke, builtin, Sem.run_bind, Sem.run_pure, Result.andThen_ok, List.map_toArray, List.map_cons, List.map_nil, hs, hx, hr]
  exact hK _ _ h

/-- A number's rank: a NaN's is the last. -/
def rk (x : Nat) : Int := if Num x then key x else 9223372036854775807
theorem num_key {x : Nat} (h : Num x) : -9218868437227405312 ≤ key x ∧ key x ≤ 9218868437227405312 := by
  unfold Num at h
  unfold key
  split <;> omega
theorem cmp_rk (x y : Nat) : cmpF x y = if rk x < rk y then -1 else if rk y < rk x then 1 else 0 := by
  unfold cmpF rk
  by_cases hx : Num x
  · have := num_key hx
    rw [if_pos hx, if_pos hx]
    by_cases hy : Num y
    · rw [if_pos hy, if_pos hy]
    · rw [if_neg hy, if_neg hy, if_pos (by omega)]
  · rw [if_neg hx, if_neg hx]
    by_cases hy : Num y
    · have := num_key hy
      rw [if_pos hy, if_pos hy, if_neg (by omega), if_pos (by omega)]
    · rw [if_neg hy, if_neg hy, if_neg (by omega), if_neg (by omega)]
/-- v is the place of the first least one. -/
def LeastOf (xs : List Nat) (v : Int) : Prop := (xs = [] ∧ v = -1) ∨ ∃ j x, v = ((j : Nat) : Int) ∧ xs[j]? = some x ∧ ∀ i y, xs[i]? = some y → rk x ≤ rk y ∧ (i < j → rk x < rk y)
def flts (xs : List Nat) : List Value := xs.map (Value.float .f64)

set_option maxRecDepth 100000 in
set_option maxHeartbeats 1000000 in
theorem least_calls {w : World} {A : Option Addr} {n c : Nat} {xs : List Nat} (h : FSeg w 22 1 A n c (flts xs)) (hmax : n ≤ 1000000) :
    Calls Tryd.prog 11 #[.slice A n c] w fun e w' => ∃ v, e = .returned (.int .i64 v) ∧ LeastOf xs v ∧ w = w' := by
  have hn : xs.length = n := by have := h.1; unfold flts at this; rw [List.length_map] at this; omega
  have HH := Lib.hid h
  clear h
  go_enter Tryd.func11, Tryd.ntmps11
  go_wp2
  go_loop [3, 8] (fun v3 v8 => ∃ (i : Nat), i ≤ n ∧ v8 = .int .i64 (i : Int) ∧ ((i = 0 ∧ v3 = .int .i64 (-1)) ∨ ∃ j x, v3 = .int .i64 ((j : Nat) : Int) ∧ j < i ∧ xs[j]? = some x ∧ ∀ k y, k < i → xs[k]? = some y → rk x ≤ rk y ∧ (k < j → rk x < rk y))) (fun _ v => n - (intOf v).toNat)
  case atStart => exact ⟨0, by omega, rfl, .inl ⟨rfl, rfl⟩⟩
  case round =>
    obtain ⟨i, hi, rfl, hb⟩ := hrel
    by_cases hlt : i < n
    · have hlt' : (i : Int) < (n : Int) := by omega
      obtain ⟨g, rfl⟩ := HH.out.isSome (by omega)
      obtain ⟨y, hy⟩ : ∃ y, xs[i]? = some y := ⟨_, List.getElem?_eq_getElem (by omega)⟩
      have c0 : w.cell? ⟨g, i, none⟩ = some (.float .f64 y) := HH.out.cell (by unfold flts; rw [List.getElem?_map, hy]; rfl)
      rcases hb with ⟨rfl, rfl⟩ | ⟨j, x, rfl, hj, hx, hall⟩
      · have hnx : ∀ k z, k < 0 + 1 → xs[k]? = some z → rk y ≤ rk z ∧ (k < 0 → rk y < rk z) := fun k z hk hz => by
          obtain rfl : k = 0 := by omega
          rw [hy] at hz
          obtain rfl := Option.some.inj hz
          exact ⟨Int.le_refl _, fun h => absurd h (Nat.not_lt_zero _)⟩
        have HY := Lib.hid hy
        have HNX := Lib.hid hnx
        clear hnx hy
        go_wp2
        exact ⟨⟨0 + 1, by omega, by go_num, .inr ⟨0, y, rfl, by omega, HY.out, HNX.out⟩⟩, by simp [intOf]; omega⟩
      · have hj1 : ¬ ((j : Int) = -1) := by omega
        have cj : w.cell? ⟨g, j, none⟩ = some (.float .f64 x) := HH.out.cell (by unfold flts; rw [List.getElem?_map, hx]; rfl)
        have HC := cmp_calls y x
        rw [cmp_rk] at HC
        have hjn : ((j : Int) < (n : Int)) := by omega
        by_cases hl : rk y < rk x
        · rw [if_pos hl] at HC
          have hnx : ∀ k z, k < i + 1 → xs[k]? = some z → rk y ≤ rk z ∧ (k < i → rk y < rk z) := fun k z hk hz => by
            by_cases e : k = i
            · subst e
              rw [hy] at hz
              obtain rfl := Option.some.inj hz
              exact ⟨Int.le_refl _, fun h => absurd h (Nat.lt_irrefl _)⟩
            · have := (hall k z (by omega) hz).1
              omega
          have HY := Lib.hid hy
          have HNX := Lib.hid hnx
          clear hnx hall hx hl hy
          go_wp2_with (go_at_call 9; refine (HC _).mono ?_; rintro e1 w1 ⟨rfl, rfl⟩)
          exact ⟨⟨i + 1, by omega, by go_num, .inr ⟨i, y, rfl, by omega, HY.out, HNX.out⟩⟩, by simp [intOf]; omega⟩
        · rw [if_neg hl] at HC
          have hnx : ∀ k z, k < i + 1 → xs[k]? = some z → rk x ≤ rk z ∧ (k < j → rk x < rk z) := fun k z hk hz => by
            by_cases e : k = i
            · subst e
              rw [hy] at hz
              obtain rfl := Option.some.inj hz
              exact ⟨by omega, fun h => by omega⟩
            · exact hall k z (by omega) hz
          have HX := Lib.hid hx
          have HNX := Lib.hid hnx
          have hge : ¬ ((if rk x < rk y then (1 : Int) else 0) < 0) := by split <;> omega
          obtain ⟨cv, hcv⟩ : ∃ cv, (if rk x < rk y then (1 : Int) else 0) = cv := ⟨_, rfl⟩
          rw [hcv] at HC hge
          have q1 : (cv < 0) = False := eq_false hge
          clear hnx hall hx hl hcv hy
          go_wp2_with (go_at_call 9; refine (HC _).mono ?_; rintro e1 w1 ⟨rfl, rfl⟩)
          exact ⟨⟨i + 1, by omega, by go_num, .inr ⟨j, x, rfl, by omega, HX.out, HNX.out⟩⟩, by simp [intOf]; omega⟩
    · obtain rfl : i = n := by omega
      have HB := Lib.hid hb
      rcases hb with ⟨rfl, rfl⟩ | ⟨j, x, rfl, hj, hx, hall⟩
      · clear HB
        go_wp2
        go_ret
        exact ⟨-1, rfl, .inl ⟨List.eq_nil_of_length_eq_zero hn, rfl⟩, rfl⟩
      · have HALL := Lib.hid hall
        have HX := Lib.hid hx
        clear hall hx HB
        go_wp2
        go_ret
        exact ⟨(j : Int), rfl, .inr ⟨j, x, rfl, HX.out, fun k y hk => HALL.out k y (by
          have := (List.getElem?_eq_some_iff.1 hk).1
          omega) hk⟩, rfl⟩

end Go.Proofs.YthlllmnlcjkiiaaDoor.Cho
