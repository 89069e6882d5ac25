/- agenda: the items and their pile in memory; compare, Len, Less. Own work of this seat. -/
import Derived.Test.YtgohlbljdffelaaCmp
import Derived.Test.YtgohlbljdffelaaHeapP
import Derived.Test.YtgohlbljdffelaaMapG
import Derived.Test.YtgohlbljdffelaaFlat
import Derived.Test.YtgohlbljdffelaaWk
namespace Go.Proofs.Ytgohlbljdffelaa.AgInt
open Go.RowKit Go.Proofs.Ytgohlbljdffelaa.Kit Go.Proofs.Ytgohlbljdffelaa.Cmp Go.Proofs.Ytgohlbljdffelaa.HeapP
set_option linter.unusedVariables false
set_option linter.unusedSimpArgs false

structure It where
  key : Int
  tm : Int
  turn : Int
  blk : Nat
instance : Inhabited It := ⟨⟨default, 0, 0, 0⟩⟩
def lt (x y : It) : Bool := decide (x.tm < y.tm) || (decide (x.tm = y.tm) && decide (x.turn < y.turn))
def le (x y : It) : Prop := lt y x = false
def cmpV (x y : It) : Int := orI (cmpI x.tm y.tm) (cmpI x.turn y.turn)
theorem lt_iff (x y : It) : lt x y = true ↔ (x.tm < y.tm ∨ (x.tm = y.tm ∧ x.turn < y.turn)) := by simp [lt]
theorem lt_not (x y : It) : lt x y = false ↔ ¬ (x.tm < y.tm ∨ (x.tm = y.tm ∧ x.turn < y.turn)) := by
  rw [← lt_iff]; simp
theorem le_iff (x y : It) : le x y ↔ ¬ (y.tm < x.tm ∨ (y.tm = x.tm ∧ y.turn < x.turn)) := lt_not y x
theorem le_tr : Tr le := by
  intro a b c h1 h2
  rw [le_iff] at *
  omega
theorem le_rf (a : It) : le a a := by rw [le_iff]; omega
theorem le_of_lt {a b : It} (h : lt a b = true) : le a b := by
  rw [lt_iff] at h
  rw [le_iff]
  omega
theorem cmpV_lt (x y : It) : decide (cmpV x y < 0) = lt x y := by
  rw [Bool.eq_iff_iff, lt_iff, decide_eq_true_eq]
  unfold cmpV orI cmpI
  by_cases h1 : x.tm < y.tm
  · simp [h1]
  · by_cases h2 : y.tm < x.tm
    · simp [h1, h2]; omega
    · have e : x.tm = y.tm := by omega
      by_cases h3 : x.turn < y.turn
      · simp [h1, h2, h3, e]
      · by_cases h4 : y.turn < x.turn
        · simp [h1, h2, h3, h4, e]
        · simp [h1, h2, h3, h4, e]

def icells (x : It) (i : Nat) : List Value := [Value.int IntKind.i64 x.key, .int .i64 x.tm, .int .i64 x.turn, .int .i64 (i : Int)]
def ptr (x : It) : Value := .pointer (some ⟨x.blk, 0, none⟩)
structure HM (w : World) (a : Nat) (M : Value) (turn : Int) (A : Option Addr) (c : Nat) (xs : List It) : Prop where
  blk : Blk w a 72 [.slice A xs.length c, M, .int .i64 turn]
  row : FSeg w 73 1 A xs.length c (xs.map ptr)
  itm : ∀ i x, xs[i]? = some x → Blk w x.blk 76 (icells x i)
  nd : (xs.map (·.blk)).Nodup
  na : ∀ x ∈ xs, x.blk ≠ a ∧ blockOf A ≠ some x.blk
  nA : blockOf A ≠ some a
/-- The blocks of the pile: its row and its items. -/
def foot (A : Option Addr) (xs : List It) (k : Nat) : Prop := blockOf A = some k ∨ ∃ x ∈ xs, x.blk = k
theorem HM.still {w w' : World} {a : Nat} {M : Value} {turn : Int} {A : Option Addr} {c : Nat} {xs : List It} {F : Nat → Prop} (h : HM w a M turn A c xs) (hs : Step F w w') (ha : ¬ F a) (hf : ∀ k, foot A xs k → ¬ F k) : HM w' a M turn A c xs :=
  ⟨h.blk.keep hs ha, h.row.keep hs (fun k hk => hf k (.inl hk)), fun i x hi => (h.itm i x hi).keep hs (hf _ (.inr ⟨x, List.mem_of_getElem? hi, rfl⟩)), h.nd, h.na, h.nA⟩
theorem HM.same {w w' : World} {a : Nat} {M : Value} {turn : Int} {A : Option Addr} {c : Nat} {xs : List It} (h : HM w a M turn A c xs) (hs : Step (fun _ => False) w w') : HM w' a M turn A c xs := h.still hs (fun h => h) (fun _ _ h => h)

set_option maxRecDepth 100000 in
set_option maxHeartbeats 1000000 in
theorem compare_calls {w : World} (x y : It) (i j : Nat) (hx : Blk w x.blk 76 (icells x i)) (hy : Blk w y.blk 76 (icells y j)) :
    Calls Try.prog 73 #[ptr x, ptr y] w fun e w' => e = .returned (.int .i64 (cmpV x y)) ∧ Step (fun _ => False) w w' := by
  unfold ptr cmpV
  obtain ⟨k1, t1, u1, b1⟩ := x
  obtain ⟨k2, t2, u2, b2⟩ := y
  have x1 := hx.cell (i := 1) rfl
  have x2 := hx.cell (i := 2) rfl
  have y1 := hy.cell (i := 1) rfl
  have y2 := hy.cell (i := 2) rfl
  have hxl := hx.lt
  have hyl := hy.lt
  simp only at x1 x2 y1 y2 hxl hyl ⊢
  clear hx hy
  have HC0 := fun (a b : Int) (w : World) => Go.Proofs.Ytgohlbljdffelaa.Cmp.compare_calls a b w
  have HC := Lib.hid HC0
  have HO0 : ∀ a b : Int, Blk ((w.alloc (.cells #[.int .i64 a, .int .i64 b] 3)).drew) w.heap.size 3 [.int .i64 a, .int .i64 b] := fun a b => (blk_new w [.int .i64 a, .int .i64 b] 3).drew
  have HO := Lib.hid HO0
  clear HC0 HO0
  go_enter Try.func73, Try.ntmps73
  go_upto_region 1 with (fail)
  go_region_held3 (fun w' => w'.cell? ⟨b1, 1, none⟩ = some (.int .i64 t1) ∧ w'.cell? ⟨b1, 2, none⟩ = some (.int .i64 u1) ∧ w'.cell? ⟨b2, 1, none⟩ = some (.int .i64 t2) ∧ w'.cell? ⟨b2, 2, none⟩ = some (.int .i64 u2)) (go_keep)
    (first | (go_at_call 70; refine (HC.out _ _ _).mono ?_; rintro e w' ⟨rfl, rfl⟩) | (go_at_call 69; refine (or_calls _ _ (HO.out _ _)).mono ?_; rintro e w' ⟨rfl, rfl⟩))
  go_wp2
  go_ret
  exact ⟨rfl, ((Step.refl _ _).alloc _).drew⟩

theorem HM.pick {w : World} {a : Nat} {M : Value} {turn : Int} {A : Option Addr} {c : Nat} {xs : List It} (h : HM w a M turn A c xs) {i : Nat} (hi : i < xs.length) : ∃ g, A = some ⟨g, 0, none⟩ ∧ w.cell? ⟨g, i, none⟩ = some (.pointer (some ⟨(lg xs i).blk, 0, none⟩)) ∧ Blk w (lg xs i).blk 76 (icells (lg xs i) i) := by
  obtain ⟨g, rfl⟩ := h.row.isSome (by omega)
  refine ⟨g, rfl, ?_, h.itm i _ (get_lg hi)⟩
  exact h.row.cell (by rw [List.getElem?_map, get_lg hi]; rfl)

set_option maxRecDepth 100000 in
set_option maxHeartbeats 1000000 in
theorem less_calls {w : World} {a : Nat} {M : Value} {turn : Int} {A : Option Addr} {c : Nat} {xs : List It} (h : HM w a M turn A c xs) {i j : Nat} (hi : i < xs.length) (hj : j < xs.length) :
    Calls Try.prog 129 #[.slice A xs.length c, .int .i64 (i : Int), .int .i64 (j : Int)] w fun e w' => e = .returned (.bool (lt (lg xs i) (lg xs j))) ∧ Step (fun _ => False) w w' := by
  obtain ⟨g, rfl, hci, hbi⟩ := h.pick hi
  obtain ⟨g', e', hcj, hbj⟩ := h.pick hj
  obtain rfl : g = g' := by simpa using e'
  rw [← cmpV_lt]
  have HC0 := fun w' (hs : Step (fun _ => False) w w') => compare_calls (w := w') (lg xs i) (lg xs j) i j (hbi.keep hs (fun h => h)) (hbj.keep hs (fun h => h))
  have hle := h.row.le
  have HK0 : ∀ w', Step (fun _ => False) w w' → w'.cell? ⟨g, i, none⟩ = some (.pointer (some ⟨(lg xs i).blk, 0, none⟩)) ∧ w'.cell? ⟨g, j, none⟩ = some (.pointer (some ⟨(lg xs j).blk, 0, none⟩)) := fun w' hs =>
    ⟨(h.row.keep hs (fun _ _ h => h)).cell (by rw [List.getElem?_map, get_lg hi]; rfl), (h.row.keep hs (fun _ _ h => h)).cell (by rw [List.getElem?_map, get_lg hj]; rfl)⟩
  clear hbi hbj h e'
  obtain ⟨v, hv⟩ : ∃ v, cmpV (lg xs i) (lg xs j) = v := ⟨_, rfl⟩
  rw [hv] at HC0 ⊢
  unfold AgInt.ptr at HC0
  generalize (lg xs i).blk = bi at *
  generalize (lg xs j).blk = bj at *
  generalize xs.length = n at *
  have i1 : (0 : Int) ≤ (i : Int) := by omega
  have i2 : (i : Int) < (n : Int) := by omega
  have j1 : (0 : Int) ≤ (j : Int) := by omega
  have j2 : (j : Int) < (n : Int) := by omega
  clear hv hi hj
  have HK := Lib.hid HK0
  have HC := Lib.hid HC0
  have hdr := (Step.refl (fun _ => False) w).drew
  clear HK0 HC0
  go_enter Try.func129, Try.ntmps129
  go_upto_region 1 with (fail)
  go_region_held3 (fun w' => w'.cell? ⟨g, i, none⟩ = some (.pointer (some ⟨bi, 0, none⟩)) ∧ w'.cell? ⟨g, j, none⟩ = some (.pointer (some ⟨bj, 0, none⟩))) (first | go_keep | exact HK.out _ hs1)
    ((go_at_call 73; refine (HC.out _ hdr).mono ?_; rintro e w1 ⟨rfl, hs0⟩; have hs1 := hdr.same hs0; clear hs0))
  go_wp2
  go_ret
  exact ⟨rfl, hs1⟩
end Go.Proofs.Ytgohlbljdffelaa.AgInt
