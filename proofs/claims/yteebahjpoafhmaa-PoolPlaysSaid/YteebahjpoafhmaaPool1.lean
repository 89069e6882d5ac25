/- pool: rows of backends; slices.IndexFunc of a name; slices.DeleteFunc of who is gone and has no requests. Own work of this seat. -/
import Derived.Test.YteebahjpoafhmaaPPoolPlaysx1
import Derived.Test.YteebahjpoafhmaaFlat
import Derived.WalkSpells
import Derived.Lib.Hide
namespace Go.Proofs.Yteebahjpoafhmaa.Pool
open Go.RowKit Go.Proofs.Yteebahjpoafhmaa.Kit Go.Proofs.Yteebahjpoafhmaa.PPoolPlays Go.Proofs.YteebahjpoafhmaaW.PrintWords Go.Proofs.YteebahjpoafhmaaW.PrintLast Go.Proofs.YteebahjpoafhmaaW.PrintMore
set_option linter.unusedVariables false
set_option linter.unusedSimpArgs false

def bc (x : S38) : List Value := [.string x.f0, .int .i64 x.f1, .int .i64 x.f2, .int .i64 x.f3, .int .i64 x.f4]
def bcells (l : List S38) : List Value := l.flatMap bc
theorem bcells_length (l : List S38) : (bcells l).length = l.length * 5 := by
  induction l with
  | nil => rfl
  | cons x r ih => simp only [bcells, bc, List.flatMap_cons, List.length_append, List.length_cons, List.length_nil] at ih ⊢; omega
theorem bcells_append (l r : List S38) : bcells (l ++ r) = bcells l ++ bcells r := by simp [bcells]
theorem bcells_one (l : List S38) : ∀ v ∈ bcells l, v.oneCell' = true := by
  intro v hv
  obtain ⟨e, _, he⟩ := List.mem_flatMap.1 hv
  simp only [bc, List.mem_cons, List.not_mem_nil, or_false] at he
  rcases he with rfl | rfl | rfl | rfl | rfl <;> rfl
theorem bcells_get : ∀ (l : List S38) (i : Nat) (x : S38), l[i]? = some x → ∀ (q : Nat) u, (bc x)[q]? = some u → (bcells l)[i * 5 + q]? = some u
  | [], i, e, h => by simp at h
  | x :: r, 0, e, h => fun q u hq => by
    obtain rfl : x = e := by simpa using h
    have hl := (List.getElem?_eq_some_iff.1 hq).1
    rw [Nat.zero_mul, Nat.zero_add]
    simp only [bcells, List.flatMap_cons]
    rw [List.getElem?_append_left hl]; exact hq
  | x :: r, i + 1, e, h => fun q u hq => by
    have := bcells_get r i e (by simpa using h) q u hq
    simp only [bcells, List.flatMap_cons]
    have e1 : (i + 1) * 5 + q = (bc x).length + (i * 5 + q) := by simp [bc]; omega
    rw [e1, List.getElem?_append_right (by omega), Nat.add_sub_cancel_left]
    exact this
theorem bcells_set : ∀ (l : List S38) (i : Nat) (x y : S38), l[i]? = some x → ∀ (q : Nat) u, q < 5 → (bc x).set q u = bc y → (bcells l).set (i * 5 + q) u = bcells (l.set i y)
  | [], i, e, y, h => by simp at h
  | x :: r, 0, e, y, h => fun q u hq hy => by
    obtain rfl : x = e := by simpa using h
    rw [Nat.zero_mul, Nat.zero_add]
    simp only [bcells, List.flatMap_cons, List.set_cons_zero]
    rw [List.set_append_left _ _ (by simpa [bc] using hq), hy]
  | x :: r, i + 1, e, y, h => fun q u hq hy => by
    have := bcells_set r i e y (by simpa using h) q u hq hy
    simp only [bcells, List.flatMap_cons, List.set_cons_succ] at this ⊢
    have e1 : (i + 1) * 5 + q = (bc x).length + (i * 5 + q) := by simp [bc]; omega
    rw [e1, List.set_append_right _ _ (by omega), Nat.add_sub_cancel_left, this]
theorem bcells_take (l : List S38) : ∀ m, (bcells l).take (m * 5) = bcells (l.take m) := by
  induction l with
  | nil => intro m; simp [bcells]
  | cons x r ih =>
    intro m
    cases m with
    | zero => simp [bcells]
    | succ m =>
      have e1 : (m + 1) * 5 = (bc x).length + m * 5 := by simp [bc]; omega
      simp only [bcells, List.flatMap_cons, List.take_succ_cons] at ih ⊢
      rw [e1, List.take_append, List.take_of_length_le (by omega), Nat.add_sub_cancel_left, ih m]

/-- A row of backends. -/
def BSeg (w : World) (A : Option Addr) (n c : Nat) (l : List S38) : Prop := FSeg w 38 5 A n c (bcells l)
section
variable {w w' : World} {A : Option Addr} {n c : Nat} {l : List S38} {F : Nat → Prop}
theorem BSeg.len (h : BSeg w A n c l) : l.length = n := by have := h.1; rw [bcells_length] at this; omega
theorem BSeg.keep (h : BSeg w A n c l) (hs : Step F w w') (hF : ∀ j, blockOf A = some j → ¬ F j) : BSeg w' A n c l := FSeg.keep h hs hF
theorem BSeg.lt (h : BSeg w A n c l) {j : Nat} (hj : blockOf A = some j) : j < w.heap.size := FSeg.lt h hj
theorem BSeg.cell {g : Nat} (h : BSeg w (some ⟨g, 0, none⟩) n c l) {i : Nat} {x : S38} (hi : l[i]? = some x) {q : Nat} {u : Value} (hq : (bc x)[q]? = some u) : w.cell? ⟨g, i * 5 + q, none⟩ = some u := FSeg.cell h (bcells_get l i x hi q u hq)
theorem BSeg.cells {g : Nat} (h : BSeg w (some ⟨g, 0, none⟩) n c l) {i : Nat} {x : S38} (hi : l[i]? = some x) :
    w.cell? ⟨g, i * 5, none⟩ = some (.string x.f0) ∧ w.cell? ⟨g, i * 5 + 1, none⟩ = some (.int .i64 x.f1) ∧ w.cell? ⟨g, i * 5 + 2, none⟩ = some (.int .i64 x.f2) ∧ w.cell? ⟨g, i * 5 + 3, none⟩ = some (.int .i64 x.f3) ∧ w.cell? ⟨g, i * 5 + 4, none⟩ = some (.int .i64 x.f4) :=
  ⟨h.cell (q := 0) hi rfl, h.cell (q := 1) hi rfl, h.cell (q := 2) hi rfl, h.cell (q := 3) hi rfl, h.cell (q := 4) hi rfl⟩
theorem BSeg.put {g : Nat} (h : BSeg w (some ⟨g, 0, none⟩) n c l) {i : Nat} {x y : S38} (hi : l[i]? = some x) {q : Nat} {u : Value} (hq : q < 5) (hy : (bc x).set q u = bc y) : BSeg (w.setCell ⟨g, i * 5 + q, none⟩ u) (some ⟨g, 0, none⟩) n c (l.set i y) := by
  have := FSeg.set h (i * 5 + q) u
  rwa [bcells_set l i x y hi q u hq hy] at this
theorem BSeg.one (h : BSeg w A n c l) {i : Nat} (hi : i < n) : ∃ g, A = some ⟨g, 0, none⟩ := FSeg.isSome h (by omega)
end

/-- Where the first one stands of which P holds. -/
def ixf (P : S38 → Bool) (l : List S38) : Nat := l.findIdx P
def ixv (P : S38 → Bool) (l : List S38) : Int := if ixf P l < l.length then (ixf P l : Int) else -1
theorem ixf_eq {P : S38 → Bool} {l : List S38} {i : Nat} (hi : i < l.length) (hp : P l[i] = true) (h : ∀ j (hj : j < i), P (l[j]'(by omega)) = false) : ixf P l = i := by
  unfold ixf
  rw [List.findIdx_eq hi]
  exact ⟨hp, fun j hj => h j hj⟩
theorem ixv_hit {P : S38 → Bool} {l : List S38} {i : Nat} (hi : i < l.length) (hp : P l[i] = true) (h : ∀ j (hj : j < i), P (l[j]'(by omega)) = false) : ixv P l = (i : Int) := by
  unfold ixv
  rw [ixf_eq hi hp h, if_pos hi]
theorem ixv_none {P : S38 → Bool} {l : List S38} (h : ∀ j (hj : j < l.length), P l[j] = false) : ixv P l = -1 := by
  unfold ixv ixf
  rw [if_neg]
  intro hlt
  have := List.findIdx_getElem (w := hlt)
  rw [h _ hlt] at this
  cases this

theorem bytes_ne {t s : ByteArray} (h : t ≠ s) : (t.toList == s.toList) = false := by
  rw [← beq_toListBytes]
  cases t with | mk a => cases s with | mk b =>
    have hab : a ≠ b := fun e => h (by rw [e])
    show (a == b) = false
    exact beq_eq_false_iff_ne.2 hab
theorem bytes_eqv (t s : ByteArray) : (t.toList == s.toList) = decide (t = s) := by
  by_cases h : t = s
  · subst h; simp
  · rw [bytes_ne h, decide_eq_false h]

set_option maxRecDepth 100000 in
set_option maxHeartbeats 1000000 in
theorem at1_calls {w : World} {v : Nat} {s : ByteArray} (x : S38) (hv : Blk w v 9 [.string s]) : Calls Try.prog 41 #[.agg #[.string x.f0, .int .i64 x.f1, .int .i64 x.f2, .int .i64 x.f3, .int .i64 x.f4], .pointer (some ⟨v, 0, none⟩)] w fun e w' => e = .returned (.bool (decide (x.f0 = s))) ∧ Step (fun _ => False) w w' := by
  obtain ⟨x0, x1, x2, x3, x4⟩ := x
  have hst := bytes_eqv x0 s
  go_enter Try.func41, Try.ntmps41
  go_upto_region 1 with (fail)
  refine alloc_next (cs := [.string x0, .int .i64 x1, .int .i64 x2, .int .i64 x3, .int .i64 x4]) ?_
  intro w1 hE hs1
  have d0 := (hv.keep hs1 (fun h => h)).cell (i := 0) rfl
  have e0 := hE.cell (i := 0) rfl
  go_wp2
  go_ret
  exact ⟨by first | rfl | (simp [hst]; done), hs1⟩

set_option maxRecDepth 100000 in
set_option maxHeartbeats 1000000 in
theorem sweep1_calls {w : World} (x : S38) : Calls Try.prog 44 #[.agg #[.string x.f0, .int .i64 x.f1, .int .i64 x.f2, .int .i64 x.f3, .int .i64 x.f4]] w fun e w' => e = .returned (.bool (decide (x.f3 = 2) && decide (x.f4 = 0))) ∧ Step (fun _ => False) w w' := by
  obtain ⟨x0, x1, x2, x3, x4⟩ := x
  go_enter Try.func44, Try.ntmps44
  go_upto_region 1 with (fail)
  refine alloc_next (cs := [.string x0, .int .i64 x1, .int .i64 x2, .int .i64 x3, .int .i64 x4]) ?_
  intro w1 hE hs1
  have e3 := hE.cell (i := 3) rfl
  have e4 := hE.cell (i := 4) rfl
  go_wp2
  all_goals
    go_ret
    exact ⟨by first | rfl | (simp [*]; done) | (rw [show (x4 == 0) = decide (x4 = 0) from rfl]; simp [*]; done), hs1⟩

set_option maxRecDepth 100000 in
set_option maxHeartbeats 1000000 in
theorem index_at_calls {w : World} {A : Option Addr} {n c : Nat} {l : List S38} {v : Nat} {s : ByteArray} (hv : Blk w v 9 [.string s]) (h : BSeg w A n c l) (hmax : n ≤ 1000000) :
    Calls Try.prog 40 #[.slice A n c, .func (.func 41) #[] #[.pointer (some ⟨v, 0, none⟩)]] w fun e w' => e = .returned (.int .i64 (ixv (fun x : S38 => decide (x.f0 = s)) l)) ∧ Step (fun _ => False) w w' := by
  have hn := h.len
  obtain ⟨r, hr0⟩ : ∃ r, ixv (fun x : S38 => decide (x.f0 = s)) l = r := ⟨_, rfl⟩
  rw [hr0]
  have hr := Lib.hid hr0
  clear hr0
  go_enter Try.func40, Try.ntmps40
  go_wp2
  go_loopw [8] (fun v8 wr => ∃ (i : Nat), i ≤ n ∧ v8 = .int .i64 (i : Int) ∧ (∀ j (hj : j < l.length), j < i → (fun x : S38 => decide (x.f0 = s)) l[j] = false) ∧ Step (fun _ => False) w wr) (fun v _ => n - (intOf v).toNat)
  case atStart => exact ⟨0, by omega, rfl, fun j hj h => by omega, Step.refl _ _⟩
  case round =>
    obtain ⟨i, hi, rfl, hno, hS⟩ := hrel
    by_cases hlt : i < n
    · have hlt' : (i : Int) < (n : Int) := by omega
      have hil : i < l.length := by omega
      have hq := h.keep hS (fun _ _ h => h)
      obtain ⟨g, rfl⟩ := hq.one hlt
      obtain ⟨c0, c1, c2, c3, c4⟩ := hq.cells (List.getElem?_eq_getElem hil)
      have HC := fun w1 (hs : Step (fun _ => False) wr w1) => at1_calls l[i] (hv.keep (hS.same hs) (fun h => h))
      have hhit : (fun x : S38 => decide (x.f0 = s)) l[i] = true → r = (i : Int) := fun hp => hr.out.symm.trans (ixv_hit (P := fun x : S38 => decide (x.f0 = s)) hil hp (fun j hj => hno j (by omega) hj))
      have hmiss : (fun x : S38 => decide (x.f0 = s)) l[i] = false → ∀ j (hj : j < l.length), j < i + 1 → (fun x : S38 => decide (x.f0 = s)) l[j] = false := fun hp j hj hji => by
        by_cases e : j = i
        · subst e; exact hp
        · exact hno j hj (by omega)
      clear hno hq hr
      generalize hpv : (fun x : S38 => decide (x.f0 = s)) l[i] = pv at *
      generalize l[i] = x at *
      obtain ⟨x0, x1, x2, x3, x4⟩ := x
      have HC1 := HC _ (Step.refl _ wr)
      cases pv with
      | true =>
        obtain rfl := hhit rfl
        clear hhit hmiss HC
        go_wp2_with (go_at_call 41; refine HC1.mono ?_; rintro e1 w1 ⟨rfl, hs1⟩)
        go_ret
        exact ⟨rfl, hS.same hs1⟩
      | false =>
        have hm := hmiss rfl
        clear hhit hmiss HC
        go_wp2_with (go_at_call 41; refine HC1.mono ?_; rintro e1 w1 ⟨rfl, hs1⟩)
        exact ⟨⟨i + 1, by omega, by go_num, hm, hS.same hs1⟩, by simp [intOf]; omega⟩
    · obtain rfl : i = n := by omega
      obtain rfl : r = -1 := hr.out.symm.trans (ixv_none (fun j hj => hno j hj (by omega)))
      clear hno
      go_wp2
      go_ret
      exact ⟨rfl, hS⟩

set_option maxRecDepth 100000 in
set_option maxHeartbeats 1000000 in
theorem index_sweep_calls {w : World} {A : Option Addr} {n c : Nat} {l : List S38} (h : BSeg w A n c l) (hmax : n ≤ 1000000) :
    Calls Try.prog 40 #[.slice A n c, .func (.func 44) #[] #[]] w fun e w' => e = .returned (.int .i64 (ixv (fun x : S38 => decide (x.f3 = 2) && decide (x.f4 = 0)) l)) ∧ Step (fun _ => False) w w' := by
  have hn := h.len
  obtain ⟨r, hr0⟩ : ∃ r, ixv (fun x : S38 => decide (x.f3 = 2) && decide (x.f4 = 0)) l = r := ⟨_, rfl⟩
  rw [hr0]
  have hr := Lib.hid hr0
  clear hr0
  go_enter Try.func40, Try.ntmps40
  go_wp2
  go_loopw [8] (fun v8 wr => ∃ (i : Nat), i ≤ n ∧ v8 = .int .i64 (i : Int) ∧ (∀ j (hj : j < l.length), j < i → (fun x : S38 => decide (x.f3 = 2) && decide (x.f4 = 0)) l[j] = false) ∧ Step (fun _ => False) w wr) (fun v _ => n - (intOf v).toNat)
  case atStart => exact ⟨0, by omega, rfl, fun j hj h => by omega, Step.refl _ _⟩
  case round =>
    obtain ⟨i, hi, rfl, hno, hS⟩ := hrel
    by_cases hlt : i < n
    · have hlt' : (i : Int) < (n : Int) := by omega
      have hil : i < l.length := by omega
      have hq := h.keep hS (fun _ _ h => h)
      obtain ⟨g, rfl⟩ := hq.one hlt
      obtain ⟨c0, c1, c2, c3, c4⟩ := hq.cells (List.getElem?_eq_getElem hil)
      have HC := fun w1 (hs : Step (fun _ => False) wr w1) => sweep1_calls (w := w1) l[i]
      have hhit : (fun x : S38 => decide (x.f3 = 2) && decide (x.f4 = 0)) l[i] = true → r = (i : Int) := fun hp => hr.out.symm.trans (ixv_hit (P := fun x : S38 => decide (x.f3 = 2) && decide (x.f4 = 0)) hil hp (fun j hj => hno j (by omega) hj))
      have hmiss : (fun x : S38 => decide (x.f3 = 2) && decide (x.f4 = 0)) l[i] = false → ∀ j (hj : j < l.length), j < i + 1 → (fun x : S38 => decide (x.f3 = 2) && decide (x.f4 = 0)) l[j] = false := fun hp j hj hji => by
        by_cases e : j = i
        · subst e; exact hp
        · exact hno j hj (by omega)
      clear hno hq hr
      generalize hpv : (fun x : S38 => decide (x.f3 = 2) && decide (x.f4 = 0)) l[i] = pv at *
      generalize l[i] = x at *
      obtain ⟨x0, x1, x2, x3, x4⟩ := x
      have HC1 := HC _ (Step.refl _ wr)
      cases pv with
      | true =>
        obtain rfl := hhit rfl
        clear hhit hmiss HC
        go_wp2_with (go_at_call 44; refine HC1.mono ?_; rintro e1 w1 ⟨rfl, hs1⟩)
        go_ret
        exact ⟨rfl, hS.same hs1⟩
      | false =>
        have hm := hmiss rfl
        clear hhit hmiss HC
        go_wp2_with (go_at_call 44; refine HC1.mono ?_; rintro e1 w1 ⟨rfl, hs1⟩)
        exact ⟨⟨i + 1, by omega, by go_num, hm, hS.same hs1⟩, by simp [intOf]; omega⟩
    · obtain rfl : i = n := by omega
      obtain rfl : r = -1 := hr.out.symm.trans (ixv_none (fun j hj => hno j hj (by omega)))
      clear hno
      go_wp2
      go_ret
      exact ⟨rfl, hS⟩
end Go.Proofs.Yteebahjpoafhmaa.Pool
