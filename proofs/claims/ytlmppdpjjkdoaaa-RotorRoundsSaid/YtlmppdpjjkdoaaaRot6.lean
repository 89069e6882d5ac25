/- rotor's law: the entries that it draws. Own work of this seat. -/
import Derived.Test.YtlmppdpjjkdoaaaRot5
namespace Go.Proofs.Ytlmppdpjjkdoaaa.Rot
open Go.RowKit Go.Proofs.Ytlmppdpjjkdoaaa.Kit Go.Proofs.Ytlmppdpjjkdoaaa.PRotorRounds Go.Proofs.YtlmppdpjjkdoaaaW.PrintWords Go.Proofs.YtlmppdpjjkdoaaaW.PrintLast Go.Proofs.YtlmppdpjjkdoaaaW.PrintMore Go.Maps
set_option linter.unusedVariables false
set_option linter.unusedSimpArgs false

theorem row_of_R {w : World} {base : Nat} {ok : Nat → Prop} {v : Value} {r : List S49} (h : Kd.R k49 49 w base ok v r) : ∃ A c, v = .slice A r.length c ∧ ERow w A (r.map fun x => (x.f0, x.f1)) := by
  obtain ⟨A, c, hv, hle, hC⟩ := Kd.R_reads h
  obtain ⟨inner, ho⟩ := Kd.R_own h
  refine ⟨A, c, hv, ?_⟩
  rcases ho.2 with ⟨e, h0⟩ | ⟨g, cap, cur, e, _⟩
  · left
    have : r = [] := List.eq_nil_of_length_eq_zero h0
    rw [this]; rfl
  · right
    rw [hv] at e
    injection e with e1 e2 e3
    subst e1
    refine ⟨g, 0, rfl, fun i x hi => ?_⟩
    rw [List.getElem?_map] at hi
    obtain ⟨y, hy, rfl⟩ := Option.map_eq_some_iff.1 hi
    have hlt := (List.getElem?_eq_some_iff.1 hy).1
    obtain ⟨ad, e, c1, c2⟩ := at_T49 hC (i : Int) (by omega) (by omega)
    obtain rfl := Option.some.inj e
    have hrd : rd_T49 r (i : Int) = y := by
      unfold rd_T49
      rw [Int.toNat_natCast, List.getD_eq_getElem?_getD, hy]; rfl
    rw [hrd, Int.toNat_natCast] at c1 c2
    rw [addr_add] at c1 c2
    exact ⟨c1, c2⟩

/-- A few entries, cut. -/
def fw (x : S49) : S49 := ⟨if (x.f0.size : Int) > 12 then x.f0.extract 0 12 else x.f0, x.f1⟩
theorem few_loop (l : List S49) : ∀ (d k i : Nat), i ≤ 6 → i ≤ l.length → 6 - i ≤ d → d < k →
    stewardlaw15_Few.l0 k l 6 ((l.take i).map fw) (i : Int) = some ((l.take 6).map fw) := by
  intro d
  induction d with
  | zero =>
    intro k i hi hl' hd hk
    obtain ⟨k, rfl⟩ : ∃ j, k = j + 1 := ⟨k - 1, by omega⟩
    simp only [stewardlaw15_Few.l0]
    obtain rfl : i = 6 := by omega
    by_cases h : ((6 : Nat) : Int) < (l.length : Int)
    · rw [if_pos h, if_neg (by omega)]
    · rw [if_neg h]
  | succ d ih =>
    intro k i hi hl' hd hk
    obtain ⟨k, rfl⟩ : ∃ j, k = j + 1 := ⟨k - 1, by omega⟩
    simp only [stewardlaw15_Few.l0]
    by_cases h : (i : Int) < (l.length : Int)
    · by_cases h6 : (i : Int) < 6
      · have hlt : i < l.length := by omega
        have hrd : rd_T49 l (i : Int) = l[i] := by
          unfold rd_T49
          rw [Int.toNat_natCast, List.getD_eq_getElem?_getD, List.getElem?_eq_getElem hlt]; rfl
        have hcut : stewardlaw01_Cut.f (l[i]).f0 12 = some (fw l[i]).f0 := by
          unfold stewardlaw01_Cut.f fw
          by_cases hc : ((l[i]).f0.size : Int) > 12
          · rw [if_pos hc, if_pos (by omega), if_pos (by omega)]; simp [hc]
          · rw [if_neg hc]; simp [hc]
        rw [if_pos h, if_pos h6, if_pos (by omega), hrd, hcut, Option.bind_some, List.length_map, List.length_take, if_pos (by omega)]
        have e : (l.take i).map fw ++ [(⟨(fw l[i]).f0, (l[i]).f1⟩ : S49)] = (l.take (i + 1)).map fw := by
          rw [List.take_add_one, List.getElem?_eq_getElem hlt, List.map_append]; rfl
        have ew : wrap64 ((i : Int) + 1) = ((i + 1 : Nat) : Int) := by unfold wrap64; omega
        rw [e, ew]
        exact ih k (i + 1) (by omega) (by omega) (by omega) (by omega)
      · obtain rfl : i = 6 := by omega
        rw [if_pos h, if_neg h6]
    · rw [if_neg h]
      have e1 : l.take i = l := List.take_of_length_le (by omega)
      have e2 : l.take 6 = l := List.take_of_length_le (by omega)
      rw [e1, e2]
theorem few_is (l : List S49) : stewardlaw15_Few.f 10 l 6 = some ((l.take 6).map fw) := by
  unfold stewardlaw15_Few.f
  exact few_loop l 6 10 0 (by omega) (by omega) (by omega) (by omega)
theorem fw_short (x : S49) : (fw x).f0.size ≤ 1000 := by
  unfold fw
  by_cases hc : (x.f0.size : Int) > 12
  · simp only [hc, if_true]; rw [ByteArray.size_extract]; omega
  · simp only [hc, if_false]; omega
/-- The entries: of each name the first. -/
def ent (l : List S49) : List (ByteArray × Int) := let m := ((l.take 6).map fw).map (fun x => (x.f0, x.f1)); dd m m.length
theorem ent_nodup (l : List S49) : ((ent l).map Prod.fst).Nodup := dd_nodup _ _
theorem ent_length (l : List S49) : (ent l).length ≤ 6 := by
  have := dd_length (((l.take 6).map fw).map (fun x => (x.f0, x.f1))) (((l.take 6).map fw).map (fun x => (x.f0, x.f1))).length
  unfold ent
  simp only [List.length_map, List.length_take] at this ⊢
  omega
theorem ent_short (l : List S49) : Short (ent l) := by
  intro e he
  have := dd_mem _ _ (Nat.le_refl _) e he
  rw [List.map_map] at this
  obtain ⟨x, _, rfl⟩ := List.mem_map.1 this
  exact fw_short x

set_option maxHeartbeats 1000000 in
/-- Few, then Once. -/
theorem few_calls {w : World} {A : Option Addr} {c : Nat} {l : List S49} (hr : Kd.C k49 w A l.length l) (hc : l.length ≤ c) :
    Calls Try.prog 29 #[.slice A l.length c, .int .i64 6] w fun e w' => ∃ A' c', e = .returned (.slice A' ((l.take 6).map fw).length c') ∧ ERow w' A' (((l.take 6).map fw).map fun x => (x.f0, x.f1)) ∧ Below w.heap.size w w' :=
  (stewardlaw15_Few.calls 10 A c l 6 _ w hr hc (few_is l)).mono fun e w' ⟨v, hv, hR, hb⟩ => by
    obtain ⟨A', c', rfl, hrow⟩ := row_of_R hR
    exact ⟨A', c', hv, hrow, hb⟩
end Go.Proofs.Ytlmppdpjjkdoaaa.Rot
