/- fields: rows of fields; which name is it: closures, IndexFunc, ContainsFunc. Own work of this seat; no condition but on lengths. -/
import Derived.Test.YtdglbpjgadjnjaaDoorFie1
namespace Go.Proofs.YtdglbpjgadjnjaaDoor.Fie
open Go.RowKit Go.Proofs.YtdglbpjgadjnjaaDoor.Kit Go.Proofs.YtdglbpjgadjnjaaDoor.Oct Go.Proofs.YtdglbpjgadjnjaaDoor.Cut
set_option linter.unusedVariables false
set_option linter.unusedSimpArgs false

structure Fd where
  nm : ByteArray
  vl : ByteArray
def fdc (x : Fd) : List Value := [.string x.nm, .string x.vl]
def fdcs (l : List Fd) : List Value := l.flatMap fdc
theorem fdcs_append (l r : List Fd) : fdcs (l ++ r) = fdcs l ++ fdcs r := by simp [fdcs]
theorem fdcs_one (x : Fd) : fdcs [x] = fdc x := by simp [fdcs]
theorem fdcs_length (l : List Fd) : (fdcs l).length = l.length * 2 := by
  induction l with
  | nil => rfl
  | cons x r ih => simp only [fdcs, fdc, List.flatMap_cons, List.length_append, List.length_cons, List.length_nil] at ih ⊢; omega
theorem fdcs_at {l : List Fd} {j : Nat} {e : Fd} (h : l[j]? = some e) : ∀ (i : Nat) (v : Value), (fdc e)[i]? = some v → (fdcs l)[j * 2 + i]? = some v := by
  have hl := (List.getElem?_eq_some_iff.1 h).1
  have e1 : fdcs l = fdcs (l.take j) ++ (fdc e ++ fdcs (l.drop (j + 1))) := by
    have h2 : l[j] = e := (List.getElem?_eq_some_iff.1 h).2
    have h3 : l = l.take j ++ (e :: l.drop (j + 1)) := by rw [← h2, ← List.drop_eq_getElem_cons hl, List.take_append_drop]
    have h4 := congrArg fdcs h3
    rw [fdcs_append] at h4
    exact h4
  have e2 : (fdcs (l.take j)).length = j * 2 := by rw [fdcs_length, List.length_take, Nat.min_eq_left (Nat.le_of_lt hl)]
  intro i v hv
  have hi := (List.getElem?_eq_some_iff.1 hv).1
  rw [e1, List.getElem?_append_right (by omega), e2, Nat.add_sub_cancel_left, List.getElem?_append_left hi]
  exact hv
theorem fdc_cell (x : Fd) : ∀ v ∈ fdc x, v.oneCell' = true := cell2 _ _
/-- A row of fields, the call's own; a row that is read. -/
def FW (w : World) (T : TypeId) (A : Option Addr) (n c : Nat) (l : List Fd) : Prop := FSeg w T 2 A n c (fdcs l)
def FRd (w : World) (A : Option Addr) (n : Nat) (l : List Fd) : Prop := RSeg w 2 A n (fdcs l)
def SRd (w : World) (A : Option Addr) (n : Nat) (l : List ByteArray) : Prop := RSeg w 1 A n (l.map Value.string)
section
variable {w w' : World} {T : TypeId} {A : Option Addr} {n c : Nat} {l : List Fd} {ss : List ByteArray} {F : Nat → Prop}
theorem FRd.len (h : FRd w A n l) : l.length = n := by have := h.1; rw [fdcs_length] at this; omega
theorem FW.len (h : FW w T A n c l) : l.length = n := by have := h.1; rw [fdcs_length] at this; omega
theorem FW.rd (h : FW w T A n c l) : FRd w A n l := FSeg.rseg h
theorem FW.keep (h : FW w T A n c l) (hs : Step F w w') (hF : ∀ j, blockOf A = some j → ¬ F j) : FW w' T A n c l := FSeg.keep h hs hF
theorem FRd.keep (h : FRd w A n l) (hs : Step F w w') (hF : ∀ j, blockOf A = some j → ¬ F j) : FRd w' A n l := RSeg.keep h hs hF
theorem FRd.same (h : FRd w A n l) (hs : Step (fun _ => False) w w') : FRd w' A n l := RSeg.same h hs
theorem SRd.len (h : SRd w A n ss) : ss.length = n := by have := h.1; rw [List.length_map] at this; omega
theorem SRd.same (h : SRd w A n ss) (hs : Step (fun _ => False) w w') : SRd w' A n ss := RSeg.same h hs
theorem FRd.cells {g o : Nat} (h : FRd w (some ⟨g, o, none⟩) n l) {j : Nat} {e : Fd} (he : l[j]? = some e) : w.cell? ⟨g, o + j * 2, none⟩ = some (.string e.nm) ∧ w.cell? ⟨g, o + j * 2 + 1, none⟩ = some (.string e.vl) :=
  ⟨by have := RSeg.cell' h (fdcs_at he 0 _ rfl); simpa using this, RSeg.cell' h (fdcs_at he 1 _ rfl)⟩
theorem SRd.cells {g o : Nat} (h : SRd w (some ⟨g, o, none⟩) n ss) {j : Nat} {e : ByteArray} (he : ss[j]? = some e) : w.cell? ⟨g, o + j, none⟩ = some (.string e) :=
  RSeg.cell h (by rw [List.getElem?_map, he]; rfl)
end

/-- The same in small letters? -/
def sameN (a b : ByteArray) : Bool := (lower a).toList == (lower b).toList
def ixOf : Option Nat → Int
  | none => -1
  | some i => (i : Int)
theorem find_hit {α : Type} (p : α → Bool) {l : List α} {i : Nat} {x : α} (hx : l[i]? = some x) (hp : p x = true) (hno : ∀ (j : Nat) (y : α), j < i → l[j]? = some y → p y = false) : l.findIdx? p = some i := by
  have hi := (List.getElem?_eq_some_iff.1 hx).1
  have he := (List.getElem?_eq_some_iff.1 hx).2
  rw [List.findIdx?_eq_some_iff_getElem]
  exact ⟨hi, by rw [he]; exact hp, fun j hj => by
    have := hno j l[j] hj (List.getElem?_eq_getElem (by omega))
    rw [this]; simp⟩
theorem find_miss {α : Type} (p : α → Bool) {l : List α} (hno : ∀ (j : Nat) (y : α), j < l.length → l[j]? = some y → p y = false) : l.findIdx? p = none := by
  rw [List.findIdx?_eq_none_iff]
  intro x hx
  obtain ⟨j, hj⟩ := List.getElem?_of_mem hx
  exact hno j x (List.getElem?_eq_some_iff.1 hj).1 hj
theorem any_find {α : Type} (p : α → Bool) (l : List α) : decide ((0 : Int) ≤ ixOf (l.findIdx? p)) = l.any p := by
  cases h : l.findIdx? p with
  | none =>
    rw [List.findIdx?_eq_none_iff] at h
    have : l.any p = false := List.any_eq_false.2 (fun x hx => by rw [h x hx]; simp)
    rw [this]
    rfl
  | some i =>
    rw [List.findIdx?_eq_some_iff_getElem] at h
    obtain ⟨h1, h2, _⟩ := h
    have : l.any p = true := List.any_eq_true.2 ⟨l[i], List.getElem_mem h1, h2⟩
    rw [this]
    simp [ixOf]

end Go.Proofs.YtdglbpjgadjnjaaDoor.Fie
