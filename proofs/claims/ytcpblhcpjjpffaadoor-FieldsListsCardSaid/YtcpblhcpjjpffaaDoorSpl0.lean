/- Texts cut at commas: plain lists; strings.Join, strings.Index at this program. Own work of this seat; no condition but on lengths. -/
import Derived.Test.YtcpblhcpjjpffaaDoorFie13
import Derived.Test.YtcpblhcpjjpffaaDoorJoinL
namespace Go.Proofs.YtcpblhcpjjpffaaDoor.Fie
open Go.RowKit Go.Proofs.YtcpblhcpjjpffaaDoor.Kit Go.Proofs.YtcpblhcpjjpffaaDoor.Oct Go.Proofs.YtcpblhcpjjpffaaDoor.Cut
set_option linter.unusedVariables false
set_option linter.unusedSimpArgs false

/-- A text's parts between commas: always one at least. -/
def splitC : List UInt8 → List (List UInt8)
  | [] => [[]]
  | x :: r => if x == 44 then [] :: splitC r else match splitC r with
    | [] => [[x]]
    | p :: ps => (x :: p) :: ps
theorem splitC_ne : ∀ l, splitC l ≠ []
  | [] => by simp [splitC]
  | x :: r => by
    unfold splitC
    split
    · simp
    · split <;> simp
theorem splitC_none : ∀ {l : List UInt8}, (∀ x ∈ l, (x == 44) = false) → splitC l = [l]
  | [], _ => rfl
  | x :: r, h => by
    have h1 := h x List.mem_cons_self
    have h2 := splitC_none (l := r) (fun y hy => h y (List.mem_cons_of_mem _ hy))
    rw [splitC, h1, h2]
    rfl
theorem splitC_app : ∀ (a b : List UInt8), splitC (a ++ 44 :: b) = splitC a ++ splitC b
  | [], b => rfl
  | x :: r, b => by
    have ih := splitC_app r b
    rw [List.cons_append, splitC, splitC, ih]
    cases hx : (x == 44) with
    | true => rfl
    | false =>
      simp only [Bool.false_eq_true, if_false]
      cases hr : splitC r with
      | nil => exact absurd hr (splitC_ne r)
      | cons p ps => rfl
theorem splitC_first {l : List UInt8} {i : Nat} (h : l.findIdx? (· == 44) = some i) : splitC l = l.take i :: splitC (l.drop (i + 1)) := by
  rw [List.findIdx?_eq_some_iff_getElem] at h
  obtain ⟨hi, hp, hno⟩ := h
  have hx : l[i] = 44 := by simpa using hp
  have e : l = l.take i ++ 44 :: l.drop (i + 1) := by
    have h1 := (List.take_append_drop i l).symm
    rw [List.drop_eq_getElem_cons hi, hx] at h1
    exact h1
  have hn : splitC (l.take i) = [l.take i] := splitC_none (fun x hx => by
    obtain ⟨k, hk⟩ := List.getElem?_of_mem hx
    have hki : k < i := by have := (List.getElem?_eq_some_iff.1 hk).1; rw [List.length_take] at this; omega
    rw [List.getElem?_take_of_lt hki] at hk
    obtain ⟨hkl, hke⟩ := List.getElem?_eq_some_iff.1 hk
    have := hno k hki
    rw [hke] at this
    simpa using this)
  have e2 := splitC_app (l.take i) (l.drop (i + 1))
  rw [← e, hn] at e2
  exact e2
theorem splitC_last {l : List UInt8} (h : l.findIdx? (· == 44) = none) : splitC l = [l] :=
  splitC_none (fun x hx => by rw [List.findIdx?_eq_none_iff] at h; exact h x hx)
/-- The parts that are not blank, without the blanks about them. -/
def keepP (ps : List (List UInt8)) : List ByteArray := (ps.map (fun p => trim (ofL p))).filter (fun t => decide (0 < t.size))
theorem keepP_app (a b : List (List UInt8)) : keepP (a ++ b) = keepP a ++ keepP b := by unfold keepP; rw [List.map_append, List.filter_append]
def listB (l : List ByteArray) : List ByteArray := l.flatMap (fun v => keepP (splitC (bts v)))
theorem split_join : ∀ (l : List ByteArray), l ≠ [] → splitC (Lib.join (l.map bts) [44]) = l.flatMap (fun v => splitC (bts v))
  | [], h => absurd rfl h
  | [x], _ => by simp [Lib.join_one]
  | x :: y :: r, _ => by
    have ih := split_join (y :: r) (by simp)
    have e : Lib.join ((x :: y :: r).map bts) [44] = bts x ++ 44 :: Lib.join ((y :: r).map bts) [44] := by
      rw [List.map_cons, Lib.join_cons, List.map_cons, Lib.join_cons]
      simp [Lib.joinTail]
    rw [e, splitC_app, ih]
    simp
theorem keep_flat (l : List ByteArray) : keepP (l.flatMap (fun v => splitC (bts v))) = listB l := by
  induction l with
  | nil => rfl
  | cons x r ih =>
    rw [List.flatMap_cons, keepP_app, ih]
    rfl
theorem keep_join (l : List ByteArray) : keepP (splitC (Lib.join (l.map bts) [44])) = listB l := by
  cases l with
  | nil => rfl
  | cons x r => rw [split_join (x :: r) (by simp), keep_flat]
set_option maxRecDepth 100000 in
theorem index44_calls (s : ByteArray) (w : World) : Calls Tryd.prog 90 #[.string s, .string ⟨#[44]⟩] w fun e w' => e = .returned (.int .i64 (Lib.indexByte s.data.toList 44)) ∧ w = w' := by
  have HI := Lib.hid (fun w => slixb_calls s 44 w)
  rw [show ((44 : Int).toNat.toUInt8) = 44 from rfl] at HI
  cases he : (([44] : List UInt8) == s.toList) with
  | true =>
    obtain rfl := toList_eq_of ⟨#[44]⟩ s (by rw [ByteArray.toList_eq]; exact he)
    have e0 : Lib.indexByte (⟨#[44]⟩ : ByteArray).data.toList 44 = 0 := rfl
    rw [e0]
    clear HI e0
    go_enter Tryd.func90, Tryd.ntmps90
    go_wp2
    go_ret
    exact ⟨rfl, rfl⟩
  | false =>
    generalize Lib.indexByte s.data.toList 44 = r at *
    go_enter Tryd.func90, Tryd.ntmps90
    go_wp2_with (go_at_call 105; refine (HI.out _).mono ?_; rintro e w' ⟨rfl, rfl⟩)
    go_ret
    exact ⟨rfl, rfl⟩
set_option maxRecDepth 100000 in
theorem ixc_calls (s : ByteArray) (w : World) : Calls Tryd.prog 120 #[.string s, .string ⟨#[44]⟩] w fun e w' => e = .returned (.int .i64 (Lib.indexByte s.data.toList 44)) ∧ w = w' := by
  have HI := Lib.hid (fun w => index44_calls s w)
  generalize Lib.indexByte s.data.toList 44 = r at *
  go_enter Tryd.func120, Tryd.ntmps120
  go_wp2_with (go_at_call 90; refine (HI.out _).mono ?_; rintro e w' ⟨rfl, rfl⟩)
  go_ret
  exact ⟨rfl, rfl⟩
def comma (s : ByteArray) : Option Nat := (bts s).findIdx? (· == 44)
theorem comma_ix (s : ByteArray) : Lib.indexByte s.data.toList 44 = match comma s with | none => -1 | some i => (i : Int) := ixb_find 44 (bts s)
theorem join_calls {w : World} {A : Option Addr} {n c : Nat} {l : List ByteArray} (h : SRd w A n l) (hc : n ≤ c) (hn : n ≤ 1000000) (hl : (Lib.join (l.map bts) [44]).length ≤ 1000000000) :
    Calls Tryd.prog 89 #[.slice A n c, .string ⟨#[44]⟩] w fun e w' => e = .returned (.string (ofL (Lib.join (l.map bts) [44]))) ∧ Step (fun _ => False) w w' := by
  have hln := h.len
  rcases Nat.eq_zero_or_pos n with h0 | h0
  · subst h0
    obtain rfl := List.eq_nil_of_length_eq_zero hln
    refine Calls.mono (show Calls Tryd.prog 89 _ _ _ from Any.strings_Join_none Tryd.joL Tryd.joLX A c ⟨#[44]⟩ w) ?_
    rintro e w' ⟨rfl, rfl⟩
    exact ⟨rfl, Step.refl _ _⟩
  · obtain ⟨g, o, rfl⟩ := RSeg.isSome h (by omega) h0
    have hg : g < w.heap.size := RSeg.lt h h0 (by omega) rfl
    subst hln
    refine Calls.mono (show Calls Tryd.prog 89 _ _ _ from Any.strings_Join Tryd.joL Tryd.joLX g o c l ⟨#[44]⟩ w (fun j x hj => SRd.cells h hj) hg (by omega) hc (by show (Lib.join (l.map bts) [44]).length ≤ _; omega)) ?_
    rintro e w' ⟨rfl, hb⟩
    exact ⟨rfl, Step.of_below hb⟩
end Go.Proofs.YtcpblhcpjjpffaaDoor.Fie
