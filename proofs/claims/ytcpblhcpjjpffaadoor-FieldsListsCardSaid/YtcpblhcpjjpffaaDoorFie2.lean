/- fields: rows of fields; which name is it: closures, IndexFunc, ContainsFunc. Own work of this seat; no condition but on lengths. -/
import Derived.Test.YtcpblhcpjjpffaaDoorFie1
namespace Go.Proofs.YtcpblhcpjjpffaaDoor.Fie
open Go.RowKit Go.Proofs.YtcpblhcpjjpffaaDoor.Kit Go.Proofs.YtcpblhcpjjpffaaDoor.Oct Go.Proofs.YtcpblhcpjjpffaaDoor.Cut
set_option linter.unusedVariables false
set_option linter.unusedSimpArgs false

structure Fd where
  nm : ByteArray
  vl : ByteArray
def fdc (x : Fd) : List Value := [.string x.nm, .string x.vl]
def fdcs (l : List Fd) : List Value := l.flatMap fdc
theorem fdcs_append (l r : List Fd) : fdcs (l ++ r) = fdcs l ++ fdcs r := by simp [fdcs]
theorem fdcs_one (x : Fd) : fdcs [x] = fdc x := by simp [fdcs]
theorem fdcs_length (l : List Fd) : (fdcs l).length = l.length * 2 := by
  induction l with
  | nil => rfl
  | cons x r ih => simp only [fdcs, fdc, List.flatMap_cons, List.length_append, List.length_cons, List.length_nil] at ih ⊢; omega
theorem fdcs_at {l : List Fd} {j : Nat} {e : Fd} (h : l[j]? = some e) : ∀ (i : Nat) (v : Value), (fdc e)[i]? = some v → (fdcs l)[j * 2 + i]? = some v := by
  have hl := (List.getElem?_eq_some_iff.1 h).1
  have e1 : fdcs l = fdcs (l.take j) ++ (fdc e ++ fdcs (l.drop (j + 1))) := by
    have h2 : l[j] = e := (List.getElem?_eq_some_iff.1 h).2
    have h3 : l = l.take j ++ (e :: l.drop (j + 1)) := by rw [← h2, ← List.drop_eq_getElem_cons hl, List.take_append_drop]
    have h4 := congrArg fdcs h3
    rw [fdcs_append] at h4
    exact h4
  have e2 : (fdcs (l.take j)).length = j * 2 := by rw [fdcs_length, List.length_take, Nat.min_eq_left (Nat.le_of_lt hl)]
  intro i v hv
  have hi := (List.getElem?_eq_some_iff.1 hv).1
  rw [e1, List.getElem?_append_right (by omega), e2, Nat.add_sub_cancel_left, List.getElem?_append_left hi]
  exact hv
theorem fdc_cell (x : Fd) : ∀ v ∈ fdc x, v.oneCell' = true := cell2 _ _
/-- A row of fields, the call's own; a row that is read. -/
def FW (w : World) (T : TypeId) (A : Option Addr) (n c : Nat) (l : List Fd) : Prop := FSeg w T 2 A n c (fdcs l)
def FRd (w : World) (A : Option Addr) (n : Nat) (l : List Fd) : Prop := RSeg w 2 A n (fdcs l)
def SRd (w : World) (A : Option Addr) (n : Nat) (l : List ByteArray) : Prop := RSeg w 1 A n (l.map Value.string)
section
variable {w w' : World} {T : TypeId} {A : Option Addr} {n c : Nat} {l : List Fd} {ss : List ByteArray} {F : Nat → Prop}
theorem FRd.len (h : FRd w A n l) : l.length = n := by have := h.1; rw [fdcs_length] at this; omega
theorem FW.len (h : FW w T A n c l) : l.length = n := by have := h.1; rw [fdcs_length] at this; omega
theorem FW.rd (h : FW w T A n c l) : FRd w A n l := FSeg.rseg h
theorem FW.keep (h : FW w T A n c l) (hs : Step F w w') (hF : ∀ j, blockOf A = some j → ¬ F j) : FW w' T A n c l := FSeg.keep h hs hF
theorem FRd.keep (h : FRd w A n l) (hs : Step F w w') (hF : ∀ j, blockOf A = some j → ¬ F j) : FRd w' A n l := RSeg.keep h hs hF
theorem FRd.same (h : FRd w A n l) (hs : Step (fun _ => False) w w') : FRd w' A n l := RSeg.same h hs
theorem SRd.len (h : SRd w A n ss) : ss.length = n := by have := h.1; rw [List.length_map] at this; omega
theorem SRd.same (h : SRd w A n ss) (hs : Step (fun _ => False) w w') : SRd w' A n ss := RSeg.same h hs
theorem FRd.cells {g o : Nat} (h : FRd w (some ⟨g, o, none⟩) n l) {j : Nat} {e : Fd} (he : l[j]? = some e) : w.cell? ⟨g, o + j * 2, none⟩ = some (.string e.nm) ∧ w.cell? ⟨g, o + j * 2 + 1, none⟩ = some (.string e.vl) :=
  ⟨by have := RSeg.cell' h (fdcs_at he 0 _ rfl); simpa using this, RSeg.cell' h (fdcs_at he 1 _ rfl)⟩
theorem SRd.cells {g o : Nat} (h : SRd w (some ⟨g, o, none⟩) n ss) {j : Nat} {e : ByteArray} (he : ss[j]? = some e) : w.cell? ⟨g, o + j, none⟩ = some (.string e) :=
  RSeg.cell h (by rw [List.getElem?_map, he]; rfl)
end

/-- The same in small letters? -/
def sameN (a b : ByteArray) : Bool := (lower a).toList == (lower b).toList
def ixOf : Option Nat → Int
  | none => -1
  | some i => (i : Int)
theorem find_hit {α : Type} (p : α → Bool) {l : List α} {i : Nat} {x : α} (hx : l[i]? = some x) (hp : p x = true) (hno : ∀ (j : Nat) (y : α), j < i → l[j]? = some y → p y = false) : l.findIdx? p = some i := by
  have hi := (List.getElem?_eq_some_iff.1 hx).1
  have he := (List.getElem?_eq_some_iff.1 hx).2
  rw [List.findIdx?_eq_some_iff_getElem]
  exact ⟨hi, by rw [he]; exact hp, fun j hj => by
    have := hno j l[j] hj (List.getElem?_eq_getElem (by omega))
    rw [this]; simp⟩
theorem find_miss {α : Type} (p : α → Bool) {l : List α} (hno : ∀ (j : Nat) (y : α), j < l.length → l[j]? = some y → p y = false) : l.findIdx? p = none := by
  rw [List.findIdx?_eq_none_iff]
  intro x hx
  obtain ⟨j, hj⟩ := List.getElem?_of_mem hx
  exact hno j x (List.getElem?_eq_some_iff.1 hj).1 hj
theorem any_find {α : Type} (p : α → Bool) (l : List α) : decide ((0 : Int) ≤ ixOf (l.findIdx? p)) = l.any p := by
  cases h : l.findIdx? p with
  | none =>
    rw [List.findIdx?_eq_none_iff] at h
    have : l.any p = false := List.any_eq_false.2 (fun x hx => by rw [h x hx]; simp)
    rw [this]
    rfl
  | some i =>
    rw [List.findIdx?_eq_some_iff_getElem] at h
    obtain ⟨h1, h2, _⟩ := h
    have : l.any p = true := List.any_eq_true.2 ⟨l[i], List.getElem_mem h1, h2⟩
    rw [this]
    simp [ixOf]

set_option maxRecDepth 100000 in
set_option maxHeartbeats 2000000 in
theorem ixs_calls {w : World} {A : Option Addr} {n c : Nat} {ss : List ByteArray} (h : SRd w A n ss) (hc : n ≤ 1000000) (hs : ∀ s ∈ ss, s.size ≤ 1000000) (m v : ByteArray) (hm : m.size ≤ 1000000) :
    Calls Tryd.prog 80 #[.slice A n c, .func (.func 56) #[.agg #[.string m, .string v]] #[]] w fun e w' => e = .returned (.int .i64 (ixOf (ss.findIdx? (sameN m)))) ∧ Step (fun _ => False) w w' := by
  have hn := h.len
  have HI := Lib.hid (fun w s (hs : s.size ≤ 1000000) => is_calls m v s hm hs w)
  obtain ⟨r, hr⟩ : ∃ r, ixOf (ss.findIdx? (sameN m)) = r := ⟨_, rfl⟩
  rw [hr]
  have HR := Lib.hid hr
  have HH := Lib.hid h
  clear hr h
  go_enter Tryd.func80, Tryd.ntmps80
  go_wp2
  go_loopw [8] (fun v8 wr => ∃ (i : Nat), v8 = .int .i64 (i : Int) ∧ i ≤ n ∧ (∀ (j : Nat) (y : ByteArray), j < i → ss[j]? = some y → sameN m y = false) ∧ Step (fun _ => False) w wr) (fun v _ => n - (intOf v).toNat)
  case atStart => exact ⟨0, rfl, Nat.zero_le _, fun j y hj => absurd hj (Nat.not_lt_zero _), Step.refl _ _⟩
  case round =>
    obtain ⟨i, rfl, hi, hno, hst⟩ := hrel
    by_cases hin : i < n
    · have hin' : ((i : Int) < (n : Int)) := by omega
      have hR := HH.out.same hst
      obtain ⟨g, o, rfl⟩ := RSeg.isSome hR (by omega) (by omega)
      have hget : ss[i]? = some ss[i] := List.getElem?_eq_getElem (by omega)
      have a0 := SRd.cells hR hget
      have hsz := hs ss[i] (List.getElem_mem (by omega))
      generalize ss[i] = x at *
      have HNO := Lib.hid hno
      have HG := Lib.hid hget
      have hcl := HI.out wr x hsz
      clear hR hget hno hs HH
      cases hp : sameN m x with
      | true =>
        obtain rfl : (i : Int) = r := by rw [← HR.out, find_hit (sameN m) HG.out hp HNO.out]; rfl
        unfold sameN at hp
        rw [hp] at hcl
        clear HR
        have HC := Lib.hid hcl
        clear hcl hp
        go_wp2_with (go_at_call 56; refine HC.out.mono ?_; rintro e w2 ⟨rfl, hs2⟩)
        go_ret
        exact ⟨rfl, hst.same hs2⟩
      | false =>
        have HP := Lib.hid hp
        unfold sameN at hp
        rw [hp] at hcl
        have HC := Lib.hid hcl
        clear hcl hp
        go_wp2_with (go_at_call 56; refine HC.out.mono ?_; rintro e w2 ⟨rfl, hs2⟩)
        go_roundw
        case rel =>
          refine ⟨i + 1, by go_num, by omega, fun j y hj hy => ?_, hst.same hs2⟩
          by_cases e : j = i
          · subst e
            rw [HG.out] at hy
            cases hy
            exact HP.out
          · exact HNO.out j y (by omega) hy
        case measure => simp [intOf]; omega
    · have hin' : ¬ ((i : Int) < (n : Int)) := by omega
      obtain rfl : i = n := by omega
      have e : ss.findIdx? (sameN m) = none := find_miss (sameN m) (fun j y hj hy => hno j y (by omega) hy)
      obtain rfl : (-1 : Int) = r := by rw [← HR.out, e]; rfl
      clear hno HR e
      go_wp2
      go_ret
      exact ⟨rfl, hst⟩
set_option maxRecDepth 100000 in
theorem cfs_calls {w : World} {A : Option Addr} {n c : Nat} {ss : List ByteArray} (h : SRd w A n ss) (hc : n ≤ 1000000) (hs : ∀ s ∈ ss, s.size ≤ 1000000) (m v : ByteArray) (hm : m.size ≤ 1000000) :
    Calls Tryd.prog 55 #[.slice A n c, .func (.func 56) #[.agg #[.string m, .string v]] #[]] w fun e w' => e = .returned (.bool (ss.any (sameN m))) ∧ Step (fun _ => False) w w' := by
  have HI := Lib.hid (ixs_calls (c := c) h hc hs m v hm)
  rw [← any_find]
  generalize ixOf (ss.findIdx? (sameN m)) = r at *
  clear h
  go_enter Tryd.func55, Tryd.ntmps55
  go_wp2_with (go_at_call 80; refine HI.out.mono ?_; rintro e w2 ⟨rfl, hs2⟩)
  go_ret
  exact ⟨rfl, hs2⟩
/-- The closure of Drop: has a field one of the names in the variable at xb? -/
theorem drop1_calls {w : World} {xb : Nat} {A : Option Addr} {n c : Nat} {ss : List ByteArray} (hX : Blk w xb 35 [.slice A n c]) (h : SRd w A n ss) (hc : n ≤ 1000000) (hs : ∀ s ∈ ss, s.size ≤ 1000000) (x : Fd) (hm : x.nm.size ≤ 1000000) :
    Calls Tryd.prog 54 #[.agg #[.string x.nm, .string x.vl], .pointer (some ⟨xb, 0, none⟩)] w fun e w' => e = .returned (.bool (ss.any (sameN x.nm))) ∧ Step (fun _ => False) w w' := by
  obtain ⟨m, v⟩ := x
  simp only at hm ⊢
  have HC := Lib.hid (fun w' (hs' : Step (fun _ => False) w w') => cfs_calls (c := c) (h.same hs') hc hs m v hm)
  generalize ss.any (sameN m) = r at *
  have HX := Lib.hid hX
  clear h hX
  go_enter Tryd.func54, Tryd.ntmps54
  go_upto_region 1 with (fail)
  refine alloc_next (cs := [.string m, .string v]) ?_
  intro w1 hY hs1
  have y0 := hY.cell (i := 0) rfl
  have y1 := hY.cell (i := 1) rfl
  have z0 := (HX.out.keep hs1 (fun h => h)).cell (i := 0) rfl
  go_wp2_with (go_at_call 55; refine (HC.out _ hs1).mono ?_; rintro e w2 ⟨rfl, hs2⟩)
  go_ret
  exact ⟨rfl, hs1.same hs2⟩
/-- The closure of Set: has a field the name in the variable at xb? -/
theorem set1_calls {w : World} {xb : Nat} {s : ByteArray} (hX : Blk w xb 9 [.string s]) (hs : s.size ≤ 1000000) (x : Fd) (hm : x.nm.size ≤ 1000000) :
    Calls Tryd.prog 67 #[.agg #[.string x.nm, .string x.vl], .pointer (some ⟨xb, 0, none⟩)] w fun e w' => e = .returned (.bool (sameN x.nm s)) ∧ Step (fun _ => False) w w' := by
  obtain ⟨m, v⟩ := x
  simp only at hm ⊢
  have HC := Lib.hid (fun w' => is_calls m v s hm hs w')
  unfold sameN
  generalize ((lower m).toList == (lower s).toList) = r at *
  have HX := Lib.hid hX
  clear hX
  go_enter Tryd.func67, Tryd.ntmps67
  go_upto_region 1 with (fail)
  refine alloc_next (cs := [.string m, .string v]) ?_
  intro w1 hY hs1
  have y0 := hY.cell (i := 0) rfl
  have y1 := hY.cell (i := 1) rfl
  have z0 := (HX.out.keep hs1 (fun h => h)).cell (i := 0) rfl
  go_wp2_with (go_at_call 56; refine (HC.out _).mono ?_; rintro e w2 ⟨rfl, hs2⟩)
  go_ret
  exact ⟨rfl, hs1.same hs2⟩

set_option maxRecDepth 100000 in
set_option maxHeartbeats 2000000 in
/-- IndexFunc of fields, by a closure g over the variable at xb. -/
theorem ixf_calls {w : World} {A : Option Addr} {n c g xb : Nat} {l : List Fd} (h : FRd w A n l) (hc : n ≤ 1000000) (p : Fd → Bool) (eg : ∀ args w, (callFunc g args).run Tryd.prog w = .ok (.enter g args) w)
    (hp : ∀ W, Step (fun _ => False) w W → ∀ x ∈ l, Calls Tryd.prog g #[.agg #[.string x.nm, .string x.vl], .pointer (some ⟨xb, 0, none⟩)] W fun e w' => e = .returned (.bool (p x)) ∧ Step (fun _ => False) W w') :
    Calls Tryd.prog 66 #[.slice A n c, .func (.func g) #[] #[.pointer (some ⟨xb, 0, none⟩)]] w fun e w' => e = .returned (.int .i64 (ixOf (l.findIdx? p))) ∧ Step (fun _ => False) w w' := by
  have hn := h.len
  have HI := Lib.hid hp
  obtain ⟨r, hr⟩ : ∃ r, ixOf (l.findIdx? p) = r := ⟨_, rfl⟩
  rw [hr]
  have HR := Lib.hid hr
  have HH := Lib.hid h
  clear hr h hp
  go_enter Tryd.func66, Tryd.ntmps66
  go_wp2
  go_loopw [8] (fun v8 wr => ∃ (i : Nat), v8 = .int .i64 (i : Int) ∧ i ≤ n ∧ (∀ (j : Nat) (y : Fd), j < i → l[j]? = some y → p y = false) ∧ Step (fun _ => False) w wr) (fun v _ => n - (intOf v).toNat)
  case atStart => exact ⟨0, rfl, Nat.zero_le _, fun j y hj => absurd hj (Nat.not_lt_zero _), Step.refl _ _⟩
  case round =>
    obtain ⟨i, rfl, hi, hno, hst⟩ := hrel
    by_cases hin : i < n
    · have hin' : ((i : Int) < (n : Int)) := by omega
      have hR := HH.out.same hst
      obtain ⟨g0, o, rfl⟩ := RSeg.isSome hR (by omega) (by omega)
      have hget : l[i]? = some l[i] := List.getElem?_eq_getElem (by omega)
      obtain ⟨a0, a1⟩ := FRd.cells hR hget
      have hcl := HI.out wr hst l[i] (List.getElem_mem (by omega))
      generalize l[i] = x at *
      have HNO := Lib.hid hno
      have HG := Lib.hid hget
      clear hR hget hno HH
      obtain ⟨m, v⟩ := x
      simp only at a0 a1 hcl
      cases hq : p ⟨m, v⟩ with
      | true =>
        obtain rfl : (i : Int) = r := by rw [← HR.out, find_hit p HG.out hq HNO.out]; rfl
        rw [hq] at hcl
        clear HR
        have HC := Lib.hid hcl
        clear hcl hq
        go_wp2_with (go_at_fn g; refine HC.out.mono ?_; rintro e w2 ⟨rfl, hs2⟩)
        go_ret
        exact ⟨rfl, hst.same hs2⟩
      | false =>
        have HP := Lib.hid hq
        rw [hq] at hcl
        have HC := Lib.hid hcl
        clear hcl hq
        go_wp2_with (go_at_fn g; refine HC.out.mono ?_; rintro e w2 ⟨rfl, hs2⟩)
        go_roundw
        case rel =>
          refine ⟨i + 1, by go_num, by omega, fun j y hj hy => ?_, hst.same hs2⟩
          by_cases e : j = i
          · subst e
            rw [HG.out] at hy
            cases hy
            exact HP.out
          · exact HNO.out j y (by omega) hy
        case measure => simp [intOf]; omega
    · have hin' : ¬ ((i : Int) < (n : Int)) := by omega
      obtain rfl : i = n := by omega
      have e : l.findIdx? p = none := find_miss p (fun j y hj hy => hno j y (by omega) hy)
      obtain rfl : (-1 : Int) = r := by rw [← HR.out, e]; rfl
      clear hno HR e
      go_wp2
      go_ret
      exact ⟨rfl, hst⟩
end Go.Proofs.YtcpblhcpjjpffaaDoor.Fie
