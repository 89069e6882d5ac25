/- idle: slices of whole numbers: IndexFunc and DeleteFunc of one number, Clone, Numbers. Own work of this seat. -/
import Derived.Test.YtgohlbljdffelaaWk
import Derived.Test.YtgohlbljdffelaaFlat
import Derived.Test.YtgohlbljdffelaaProg
namespace Go.Proofs.Ytgohlbljdffelaa.IntS
open Go.RowKit Go.Proofs.Ytgohlbljdffelaa.Kit
set_option linter.unusedVariables false
set_option linter.unusedSimpArgs false

def ic (l : List Int) : List Value := l.map (Value.int IntKind.i64)
/-- A row of whole numbers. -/
def ISeg (w : World) (A : Option Addr) (n c : Nat) (l : List Int) : Prop := FSeg w 3 1 A n c (ic l)
theorem ic_one (l : List Int) : ∀ v ∈ ic l, v.oneCell' = true := by
  intro v hv
  obtain ⟨x, _, rfl⟩ := List.mem_map.1 hv
  rfl
theorem ic_get {l : List Int} {i : Nat} {x : Int} (h : l[i]? = some x) : (ic l)[i]? = some (.int .i64 x) := by unfold ic; rw [List.getElem?_map, h]; rfl
section
variable {w w' : World} {A : Option Addr} {n c : Nat} {l : List Int} {F : Nat → Prop}
theorem ISeg.len (h : ISeg w A n c l) : l.length = n := by have := h.1; unfold ic at this; rw [List.length_map] at this; omega
theorem ISeg.keep (h : ISeg w A n c l) (hs : Step F w w') (hF : ∀ j, blockOf A = some j → ¬ F j) : ISeg w' A n c l := FSeg.keep h hs hF
theorem ISeg.lt (h : ISeg w A n c l) {j : Nat} (hj : blockOf A = some j) : j < w.heap.size := FSeg.lt h hj
theorem ISeg.le (h : ISeg w A n c l) : n ≤ c := FSeg.le h
theorem ISeg.cell {g : Nat} (h : ISeg w (some ⟨g, 0, none⟩) n c l) {i : Nat} {x : Int} (hi : l[i]? = some x) : w.cell? ⟨g, i, none⟩ = some (.int .i64 x) := FSeg.cell h (ic_get hi)
theorem ISeg.one (h : ISeg w A n c l) {i : Nat} (hi : i < n) : ∃ g, A = some ⟨g, 0, none⟩ := FSeg.isSome h (by omega)
theorem ISeg.set {g : Nat} (h : ISeg w (some ⟨g, 0, none⟩) n c l) (i : Nat) (x : Int) : ISeg (w.setCell ⟨g, i, none⟩ (.int .i64 x)) (some ⟨g, 0, none⟩) n c (l.set i x) := by
  have := FSeg.set h i (.int .i64 x)
  unfold ISeg ic
  rw [List.map_set]
  exact this
theorem iseg_nil (w : World) : ISeg w none 0 0 [] := fseg_nil _ _ _
end

def ixv (p : Int) (l : List Int) : Int := if l.findIdx (fun x => decide (x = p)) < l.length then (l.findIdx (fun x => decide (x = p)) : Int) else -1
theorem ixv_hit {p : Int} {l : List Int} {i : Nat} (hi : i < l.length) (hp : l[i] = p) (h : ∀ j (hj : j < i), l[j]'(by omega) ≠ p) : ixv p l = (i : Int) := by
  have e : l.findIdx (fun x => decide (x = p)) = i := by
    rw [List.findIdx_eq hi]
    exact ⟨by simp [hp], fun j hj => by simp [h j hj]⟩
  unfold ixv
  rw [e, if_pos hi]
theorem ixv_none {p : Int} {l : List Int} (h : ∀ j (hj : j < l.length), l[j] ≠ p) : ixv p l = -1 := by
  unfold ixv
  rw [if_neg]
  intro hlt
  have := List.findIdx_getElem (w := hlt)
  simp only [decide_eq_true_eq] at this
  exact h _ hlt this
theorem ix_cases (p : Int) (l : List Int) : (ixv p l = -1 ∧ ∀ x ∈ l, x ≠ p) ∨ ∃ i, ∃ hi : i < l.length, ixv p l = (i : Int) ∧ l[i] = p ∧ ∀ j (hj : j < i), l[j]'(by omega) ≠ p := by
  by_cases h : l.findIdx (fun x => decide (x = p)) < l.length
  · right
    refine ⟨_, h, by unfold ixv; rw [if_pos h], by simpa using List.findIdx_getElem (w := h), fun j hj => ?_⟩
    simpa using List.not_of_lt_findIdx hj
  · left
    refine ⟨by unfold ixv; rw [if_neg h], fun x hx => ?_⟩
    have := List.findIdx_eq_length.1 (Nat.le_antisymm List.findIdx_le_length (Nat.not_lt.1 h))
    simpa using this x hx

theorem drop1_calls {w : World} {v : Nat} {p : Int} (x : Int) (hv : Blk w v 3 [.int .i64 p]) : Calls Try.prog 39 #[.int .i64 x, .pointer (some ⟨v, 0, none⟩)] w fun e w' => e = .returned (.bool (decide (x = p))) ∧ w = w' := by
  have d0 := hv.cell (i := 0) rfl
  have hx : (x == p) = decide (x = p) := rfl
  go_enter Try.func39, Try.ntmps39
  go_wp2
  go_ret
  exact ⟨rfl, rfl⟩

set_option maxRecDepth 100000 in
set_option maxHeartbeats 1000000 in
theorem index_calls {w : World} {A : Option Addr} {n c : Nat} {l : List Int} {v : Nat} {p : Int} (hv : Blk w v 3 [.int .i64 p]) (h : ISeg w A n c l) (hmax : n ≤ 1000000) :
    Calls Try.prog 61 #[.slice A n c, .func (.func 39) #[] #[.pointer (some ⟨v, 0, none⟩)]] w fun e w' => e = .returned (.int .i64 (ixv p l)) ∧ w = w' := by
  have hn := h.len
  obtain ⟨r, hr0⟩ : ∃ r, ixv p l = r := ⟨_, rfl⟩
  rw [hr0]
  have hr := Lib.hid hr0
  clear hr0
  have HC := Lib.hid (fun x => drop1_calls (w := w) x hv)
  go_enter Try.func61, Try.ntmps61
  go_wp2
  go_loop [8] (fun v8 => ∃ (i : Nat), i ≤ n ∧ v8 = .int .i64 (i : Int) ∧ (∀ j (hj : j < l.length), j < i → l[j] ≠ p)) (fun v => n - (intOf v).toNat)
  case atStart => exact ⟨0, by omega, rfl, fun j hj h => by omega⟩
  case round =>
    obtain ⟨i, hi, rfl, hno⟩ := hrel
    by_cases hlt : i < n
    · have hlt' : (i : Int) < (n : Int) := by omega
      have hil : i < l.length := by omega
      obtain ⟨g, rfl⟩ := h.one hlt
      have c0 := h.cell (List.getElem?_eq_getElem hil)
      by_cases hp : l[i] = p
      · obtain rfl : r = (i : Int) := hr.out.symm.trans (ixv_hit hil hp (fun j hj => hno j (by omega) hj))
        rw [hp] at c0
        have HC1 := HC.out p
        rw [decide_eq_true rfl] at HC1
        clear hno hr hp h
        go_wp2_with (go_at_call 39; refine HC1.mono ?_; rintro e1 w1 ⟨rfl, rfl⟩)
        go_ret
        exact ⟨rfl, rfl⟩
      · have hm : ∀ j (hj : j < l.length), j < i + 1 → l[j] ≠ p := fun j hj hji => by
          by_cases e : j = i
          · subst e; exact hp
          · exact hno j hj (by omega)
        have HC1 := HC.out l[i]
        rw [decide_eq_false hp] at HC1
        have HM := Lib.hid hm
        clear hno hr hp h hm
        generalize l[i] = x at *
        go_wp2_with (go_at_call 39; refine HC1.mono ?_; rintro e1 w1 ⟨rfl, rfl⟩)
        exact ⟨⟨i + 1, by omega, by go_num, HM.out⟩, by simp [intOf]; omega⟩
    · obtain rfl : i = n := by omega
      obtain rfl : r = -1 := hr.out.symm.trans (ixv_none (fun j hj => hno j hj (by omega)))
      clear hno h
      go_wp2
      go_ret
      exact ⟨rfl, rfl⟩
end Go.Proofs.Ytgohlbljdffelaa.IntS
