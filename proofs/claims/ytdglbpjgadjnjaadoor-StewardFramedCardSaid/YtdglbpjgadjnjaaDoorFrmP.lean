/- Where a body ends, plain: of codings and lengths. Own work of this seat; no condition. -/
import Derived.Test.YtdglbpjgadjnjaaDoorNum10
import Derived.Test.YtdglbpjgadjnjaaDoorFie12
import Derived.Test.YtdglbpjgadjnjaaDoorLw6p
namespace Go.Proofs.YtdglbpjgadjnjaaDoor.Fie
open Go.RowKit Go.Proofs.YtdglbpjgadjnjaaDoor.Kit Go.Proofs.YtdglbpjgadjnjaaDoor.Oct Go.Proofs.YtdglbpjgadjnjaaDoor.Cut
set_option linter.unusedVariables false
set_option linter.unusedSimpArgs false

def decE (v : ByteArray) : Int := (decR v 9999999999).2
def decV (v : ByteArray) : Int := (decR v 9999999999).1
def lenAll (c : ByteArray) (C : List ByteArray) : Bool := C.all (fun v => decE v == 0 && decV v == decV c)
def lenR (C : List ByteArray) (most : Int) : Int × Int := match C with
  | [] => (0, 0)
  | c :: r => if lenAll c (c :: r) = true then (if most < decV c then (0, 3) else (decV c, 0)) else (0, 2)
def bChunked : ByteArray := ⟨#[99, 104, 117, 110, 107, 101, 100]⟩
def ofR (A C : List ByteArray) (most without : Int) : Int × Int × Int := match A with
  | [] => (match C with
    | [] => (without, 0, 0)
    | c :: r => if (lenR (c :: r) most).2 = 0 then (1, (lenR (c :: r) most).1, 0) else (0, 0, (lenR (c :: r) most).2))
  | a :: r => if r = [] ∧ C = [] ∧ lower a = bChunked then (2, 0, 0) else (0, 0, 2)
theorem twice_some {A : List ByteArray} (h : A ≠ []) (C : List ByteArray) (most : Int) : ofR (A ++ A) (C ++ C) most 0 = (0, 0, 2) := by
  cases A with
  | nil => exact absurd rfl h
  | cons a r =>
    show (if r ++ a :: r = [] ∧ _ ∧ _ then _ else _) = _
    rw [if_neg (fun e => by simp at e)]
theorem lenAll_app (c : ByteArray) (C D : List ByteArray) : lenAll c (C ++ D) = (lenAll c C && lenAll c D) := by
  unfold lenAll
  rw [List.all_append]
theorem twice_none (C : List ByteArray) (most : Int) : ofR ([] ++ []) (C ++ C) most 0 = ofR [] C most 0 := by
  cases C with
  | nil => rfl
  | cons c r =>
    have e : lenR (c :: r ++ c :: r) most = lenR (c :: r) most := by
      have h1 : lenAll c (c :: r ++ c :: r) = lenAll c (c :: r) := by rw [lenAll_app, Bool.and_self]
      unfold lenR
      show (if lenAll c (c :: r ++ c :: r) = true then _ else _) = _
      rw [h1]
    show (if (lenR (c :: r ++ c :: r) most).2 = 0 then _ else _) = _
    show (if (lenR (c :: r ++ c :: r) most).2 = 0 then (1, (lenR (c :: r ++ c :: r) most).1, 0) else (0, 0, (lenR (c :: r ++ c :: r) most).2)) = _
    rw [e]
    rfl
theorem allF_app (l r : List Fd) (s : ByteArray) : allF (l ++ r) s = allF l s ++ allF r s := by
  unfold allF
  rw [List.filter_append, List.map_append]
theorem allF_low (l : List Fd) {s t : ByteArray} (h : lower s = lower t) : allF l s = allF l t := by
  unfold allF
  congr 2
  funext x
  unfold sameN
  rw [h]
def bTE : ByteArray := ⟨#[84, 114, 97, 110, 115, 102, 101, 114, 45, 69, 110, 99, 111, 100, 105, 110, 103]⟩
def bTe : ByteArray := ⟨#[116, 114, 97, 110, 115, 102, 101, 114, 45, 101, 110, 99, 111, 100, 105, 110, 103]⟩
def bCL : ByteArray := ⟨#[67, 111, 110, 116, 101, 110, 116, 45, 76, 101, 110, 103, 116, 104]⟩
def bCl : ByteArray := ⟨#[99, 111, 110, 116, 101, 110, 116, 45, 108, 101, 110, 103, 116, 104]⟩
theorem low_te : lower bTE = lower bTe := by kernel_rfl
theorem low_cl : lower bCL = lower bCl := by kernel_rfl
def upB (b : UInt8) : UInt8 := if 97 ≤ b.toNat ∧ b.toNat ≤ 122 then b - 32 else b
def upS (s : ByteArray) : ByteArray := ofL ((bts s).map upB)
theorem upS_size (s : ByteArray) : (upS s).size = s.size := by unfold upS; rw [ofL_size, List.length_map, bts_len]
def lineOf (up : Bool) (x : Fd) : ByteArray := (if up then upS x.nm else x.nm) ++ ⟨#[58]⟩ ++ x.vl
def oneF (up : Bool) (x : Fd) : List Fd := match parseF (lineOf up x) with
  | none => []
  | some p => [⟨p.1, p.2⟩]
def fldL (l : List Fd) (up : Bool) : List Fd := l.flatMap (oneF up)
theorem fldL_take {l : List Fd} {up : Bool} {i : Nat} {x : Fd} (h : l[i]? = some x) : fldL (l.take (i + 1)) up = fldL (l.take i) up ++ oneF up x := by
  unfold fldL
  rw [List.take_add_one, h]
  simp
theorem fldL_len (l : List Fd) (up : Bool) : ∀ i, (fldL (l.take i) up).length ≤ i := by
  intro i
  induction i with
  | zero => simp [fldL]
  | succ i ih =>
    cases h : l[i]? with
    | none =>
      have hl := List.getElem?_eq_none_iff.1 h
      rw [List.take_of_length_le (by omega)] at ih ⊢
      omega
    | some x =>
      rw [fldL_take h, List.length_append]
      have : (oneF up x).length ≤ 1 := by unfold oneF; split <;> simp
      omega
theorem lineOf_size (up : Bool) (x : Fd) : (lineOf up x).size = x.nm.size + x.vl.size + 1 := by
  unfold lineOf
  rw [cat_size, cat_size]
  have : (if up = true then upS x.nm else x.nm).size = x.nm.size := by cases up <;> simp [upS_size]
  rw [this]
  show x.nm.size + 1 + x.vl.size = _
  omega
theorem fldL_mem {l : List Fd} {up : Bool} {k : Nat} (hl : ∀ x ∈ l, x.nm.size + x.vl.size ≤ k) : ∀ y ∈ fldL l up, y.nm.size ≤ k + 1 ∧ y.vl.size ≤ k + 1 := by
  intro y hy
  obtain ⟨x, hx, hyx⟩ := List.mem_flatMap.1 hy
  have h1 := hl x hx
  have h2 := lineOf_size up x
  unfold oneF at hyx
  split at hyx
  · cases hyx
  · rename_i p hp
    obtain ⟨n, v⟩ := p
    rw [List.mem_singleton] at hyx
    subst hyx
    have h3 := (parse_some hp).2.2
    exact ⟨by show n.size ≤ _; omega, by show v.size ≤ _; omega⟩
end Go.Proofs.YtdglbpjgadjnjaaDoor.Fie
