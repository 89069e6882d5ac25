/- agenda: an agenda in memory, as its sorted list; New, Len, First. Own work of this seat. -/
import Derived.Test.YtgohlbljdffelaaAgGInt
import Derived.Test.YtgohlbljdffelaaAgP
namespace Go.Proofs.Ytgohlbljdffelaa.AgInt
open Go.RowKit Go.Proofs.Ytgohlbljdffelaa.Kit Go.Proofs.Ytgohlbljdffelaa.Cmp Go.Proofs.Ytgohlbljdffelaa.HeapP Go.Proofs.Ytgohlbljdffelaa.AgP
set_option linter.unusedVariables false
set_option linter.unusedSimpArgs false

def KOk (k : Int) : Prop := -9223372036854775808 ≤ k ∧ k ≤ 9223372036854775807
theorem kkey {k : Int} (h : KOk k) : keyOf Try.prog 3 (Value.int IntKind.i64 k) = some (ilit k) := ikey Try.underlying3 h.1 h.2
theorem kkeyed : Go.Maps.Keyed Try.prog 3 := Go.Maps.int_keyed Try.underlying3
def proj (x : It) : Ev Int := ⟨x.key, x.tm, x.turn⟩
/-- The map's function: under each key the item that bears it. -/
def Fm (f : Lit → Option Value) (xs : List It) : Prop := ∀ k, (∀ x ∈ xs, x.key = k → f (ilit k) = some (ptr x)) ∧ ((∀ x ∈ xs, x.key ≠ k) → f (ilit k) = none)
theorem Fm.perm {f : Lit → Option Value} {xs ys : List It} (h : Fm f xs) (hp : ys.Perm xs) : Fm f ys := fun k =>
  ⟨fun x hx => (h k).1 x (hp.mem_iff.1 hx), fun hn => (h k).2 (fun x hx => hn x (hp.mem_iff.2 hx))⟩
theorem Fm.put {f : Lit → Option Value} {xs : List It} (h : Fm f xs) {x : It} (hn : ∀ y ∈ xs, y.key ≠ x.key) : Fm (putF f (ilit x.key) (ptr x)) (xs ++ [x]) := by
  intro k
  unfold putF
  by_cases e : k = x.key
  · subst e
    rw [if_pos (sameKey_self (ilit_ok _))]
    refine ⟨fun y hy hk => ?_, fun hall => absurd rfl (hall x (by simp))⟩
    rcases List.mem_append.1 hy with hy | hy
    · exact absurd hk (hn y hy)
    · obtain rfl : y = x := by simpa using hy
      rfl
  · have ek : ilit k ≠ ilit x.key := fun e' => e (ilit_inj e')
    rw [if_neg (by rw [Go.Maps.sameKey_ne ek]; simp)]
    refine ⟨fun y hy hk => ?_, fun hall => (h k).2 (fun y hy => hall y (by simp [hy]))⟩
    rcases List.mem_append.1 hy with hy | hy
    · exact (h k).1 y hy hk
    · obtain rfl : y = x := by simpa using hy
      exact absurd hk.symm e
theorem Fm.del {f : Lit → Option Value} {r : List It} {x : It} (h : Fm f (x :: r)) (hn : ∀ y ∈ r, y.key ≠ x.key) : Fm (delF f (ilit x.key)) r := by
  intro k
  unfold delF
  by_cases e : k = x.key
  · subst e
    rw [if_pos (sameKey_self (ilit_ok _))]
    exact ⟨fun y hy hk => absurd hk (hn y hy), fun _ => rfl⟩
  · have ek : ilit k ≠ ilit x.key := fun e' => e (ilit_inj e')
    rw [if_neg (by rw [Go.Maps.sameKey_ne ek]; simp)]
    refine ⟨fun y hy hk => (h k).1 y (by simp [hy]) hk, fun hall => (h k).2 (fun y hy => ?_)⟩
    rcases List.mem_cons.1 hy with rfl | hy
    · exact fun e' => e e'.symm
    · exact hall y hy
theorem Fm.nodup {f : Lit → Option Value} {xs : List It} (h : Fm f xs) (hn : (xs.map (·.blk)).Nodup) : (xs.map (·.key)).Nodup := by
  unfold List.Nodup at hn ⊢
  rw [List.pairwise_map] at hn ⊢
  refine hn.imp_of_mem fun {x y} hx hy hb e => hb ?_
  have h1 := (h y.key).1 x hx e
  have h2 := (h y.key).1 y hy rfl
  rw [h1] at h2
  unfold ptr at h2
  injection h2 with h2
  injection h2 with h2
  injection h2 with h2
  injection h2

structure AgX (w : World) (a : Nat) (A : Option Addr) (c M m n : Nat) (f : Lit → Option Value) (xs : List It) (t : Nat) : Prop where
  hm : HM w a (.map (some M)) (t : Int) A c xs
  hp : HeapG le (lg xs) xs.length
  mg : MG Try.prog 3 w M n m f
  fm : Fm f xs
  ne : M ≠ a ∧ blockOf A ≠ some M ∧ ∀ x ∈ xs, x.blk ≠ M
  kok : ∀ x ∈ xs, KOk x.key
  nt : n ≤ t
  lt : xs.length ≤ t
/-- The agenda at a, which may own the blocks of F, is L: sorted; t is how many were set. -/
def AgR (w : World) (a : Nat) (F : Nat → Prop) (L : List (Ev Int)) (t : Nat) : Prop :=
  Sorted L ∧ (∀ s ∈ L, s.turn ≤ (t : Int)) ∧ (∀ k, F k → k < w.heap.size) ∧ ∃ xs A c M m n f, AgX w a A c M m n f xs t ∧ (xs.map proj).Perm L ∧ ∀ k, k = a ∨ k = M ∨ foot A xs k → F k
theorem AgR.keep {w w' : World} {a : Nat} {F G : Nat → Prop} {L : List (Ev Int)} {t : Nat} (h : AgR w a F L t) (hs : Step G w w') (hd : ∀ k, F k → ¬ G k) : AgR w' a F L t := by
  obtain ⟨h1, h2, h3, xs, A, c, M, m, n, f, hx, hp, hF⟩ := h
  have hsz := hs.size
  refine ⟨h1, h2, fun k hk => by have := h3 k hk; omega, xs, A, c, M, m, n, f, ⟨hx.hm.still hs (hd _ (hF _ (.inl rfl))) (fun k hk => hd k (hF k (.inr (.inr hk)))), hx.hp, hx.mg.keep hs (hd _ (hF _ (.inr (.inl rfl)))), hx.fm, hx.ne, hx.kok, hx.nt, hx.lt⟩, hp, hF⟩
theorem AgR.same {w w' : World} {a : Nat} {F : Nat → Prop} {L : List (Ev Int)} {t : Nat} (h : AgR w a F L t) (hs : Step (fun _ => False) w w') : AgR w' a F L t := h.keep hs (fun _ _ h => h)
theorem AgR.lt {w : World} {a : Nat} {F : Nat → Prop} {L : List (Ev Int)} {t : Nat} (h : AgR w a F L t) {k : Nat} (hk : F k) : k < w.heap.size := h.2.2.1 k hk
theorem AgR.own {w : World} {a : Nat} {F : Nat → Prop} {L : List (Ev Int)} {t : Nat} (h : AgR w a F L t) : F a := by
  obtain ⟨h1, h2, h3, xs, A, c, M, m, n, f, hx, hp, hF⟩ := h
  exact hF a (.inl rfl)
theorem AgR.sorted {w : World} {a : Nat} {F : Nat → Prop} {L : List (Ev Int)} {t : Nat} (h : AgR w a F L t) : Sorted L := h.1
theorem AgR.nodup {w : World} {a : Nat} {F : Nat → Prop} {L : List (Ev Int)} {t : Nat} (h : AgR w a F L t) : (L.map (·.key)).Nodup := by
  obtain ⟨h1, h2, h3, xs, A, c, M, m, n, f, hx, hp, hF⟩ := h
  have := hx.fm.nodup hx.hm.nd
  have h4 := (hp.map (·.key)).nodup_iff.1 (by rw [List.map_map]; exact this)
  exact h4
theorem AgR.kok {w : World} {a : Nat} {F : Nat → Prop} {L : List (Ev Int)} {t : Nat} (h : AgR w a F L t) : ∀ s ∈ L, KOk s.key := by
  obtain ⟨h1, h2, h3, xs, A, c, M, m, n, f, hx, hp, hF⟩ := h
  intro s hs
  obtain ⟨x, hx', rfl⟩ := List.mem_map.1 (hp.mem_iff.2 hs)
  exact hx.kok x hx'
theorem AgR.len_le {w : World} {a : Nat} {F : Nat → Prop} {L : List (Ev Int)} {t : Nat} (h : AgR w a F L t) : L.length ≤ t := by
  obtain ⟨h1, h2, h3, xs, A, c, M, m, n, f, hx, hp, hF⟩ := h
  have := hp.length_eq
  rw [List.length_map] at this
  have := hx.lt
  omega
/-- The first one of the pile is the least. -/
theorem top {xs : List It} {L : List (Ev Int)} (hh : HeapG le (lg xs) xs.length) (hp : (xs.map proj).Perm L) (hs : Sorted L) {s : Ev Int} {r : List (Ev Int)} (e : L = s :: r) : xs.length = r.length + 1 ∧ proj (lg xs 0) = s := by
  subst e
  have hl := hp.length_eq
  rw [List.length_map, List.length_cons] at hl
  refine ⟨hl, ?_⟩
  cases xs with
  | nil => simp at hl
  | cons x xs =>
    have hm : ∀ y ∈ s :: r, ¬ ltE y (proj x) := by
      intro y hy
      obtain ⟨z, hz, rfl⟩ := List.mem_map.1 (hp.mem_iff.2 hy)
      obtain ⟨i, hi⟩ := List.getElem?_of_mem hz
      have hil := (List.getElem?_eq_some_iff.1 hi).1
      have h1 := heap_min le_tr le_rf hh i hil
      rw [lg_some hi, show lg (x :: xs) 0 = x from rfl, le_iff] at h1
      exact h1
    obtain ⟨L', e, _⟩ := head_least hs (by simpa using hp) hm
    injection e with e1 e2
    exact e1.symm
theorem empty {xs : List It} (hp : (xs.map proj).Perm []) : xs = [] := by
  have := hp.length_eq
  cases xs with
  | nil => rfl
  | cons x xs => simp at this

set_option maxRecDepth 100000 in
set_option maxHeartbeats 1000000 in
theorem new_calls (w : World) : Calls Try.prog 9 #[] w fun e w' => ∃ a F, e = .returned (.pointer (some ⟨a, 0, none⟩)) ∧ AgR w' a F [] 0 ∧ Step (fun _ => False) w w' ∧ ∀ k, F k → w.heap.size ≤ k := by
  have hmm := @run_makeMap Try.prog
  go_enter Try.func9, Try.ntmps9
  go_wp2
  go_ret
  refine ⟨_, fun k => k = w.heap.size ∨ k = w.heap.size + 1, rfl, ?_, ((Step.refl _ _).alloc _).alloc _, fun k hk => by omega⟩
  have hz : ∀ o : Obj, (w.alloc o).heap.size = w.heap.size + 1 := fun o => by show (w.heap.push _).size = _; simp
  have hM := (mg_new Try.prog 3 w).keep (((Step.refl (fun _ => False) (w.alloc (.map #[] 0))).alloc (.cells #[.slice none 0 0, .map (some w.heap.size), .int .i64 0] 72))) (fun h => h)
  have hB := blk_new (w.alloc (.map #[] 0)) [.slice none 0 0, .map (some w.heap.size), .int .i64 0] 72
  rw [hz] at hB
  refine ⟨List.Pairwise.nil, fun s h => by simp at h, fun k hk => ?_, [], none, 0, w.heap.size, 0, 0, fun _ => none, ⟨⟨hB, fseg_nil _ _ _, fun i x h => by simp at h, List.Pairwise.nil, fun x h => by simp at h, fun h => by cases h⟩, fun k h0 h1 => absurd h1 (by simp), hM, fun k => ⟨fun x h => by simp at h, fun _ => rfl⟩, ⟨by omega, (fun h => by cases h), fun x h => by simp at h⟩, fun x h => by simp at h, Nat.le_refl _, Nat.le_refl _⟩, List.Perm.refl _, fun k hk => ?_⟩
  · have h2 : ((w.alloc (.map #[] 0)).alloc (.cells #[.slice none 0 0, .map (some w.heap.size), .int .i64 0] 72)).heap.size = w.heap.size + 2 := by show ((w.heap.push _).push _).size = _; simp
    rw [h2]
    omega
  · rcases hk with e | e | e | ⟨x, h, _⟩
    · exact .inr e
    · exact .inl e
    · cases e
    · simp at h

def firstL (L : List (Ev Int)) : Int × Bool := match L with | [] => (0, false) | s :: _ => (s.tm, true)
theorem first_calls {w : World} {a : Nat} {F : Nat → Prop} {L : List (Ev Int)} {t : Nat} (h : AgR w a F L t) (ht : t ≤ 1000000) : Calls Try.prog 34 #[.pointer (some ⟨a, 0, none⟩)] w fun e w' => e = .returned (.tuple #[.int .i64 (firstL L).1, .bool (firstL L).2]) ∧ w = w' := by
  obtain ⟨h1, h2, h3, xs, A, c, M, m, n, f, hx, hp, hF⟩ := h
  have c0 := hx.hm.cell0
  have hlt := hx.lt
  cases L with
  | nil =>
    obtain rfl := empty hp
    simp only [List.length_nil] at c0
    unfold firstL
    go_enter Try.func34, Try.ntmps34
    go_wp2
    go_ret2
    exact ⟨rfl, rfl⟩
  | cons s r =>
    obtain ⟨hl, e⟩ := top hx.hp hp h1 rfl
    obtain ⟨g, rfl, hci, hbi⟩ := hx.hm.pick (i := 0) (by omega)
    have d1 := hbi.cell (i := 1) rfl
    have hle := hx.hm.row.le
    have q0 : ((xs.length : Int) == 0) = false := by rw [beq_eq_false_iff_ne]; omega
    have q1 : (0 : Int) < (xs.length : Int) := by omega
    have es : (lg xs 0).tm = s.tm := by rw [← e]; rfl
    rw [es] at d1
    unfold firstL
    simp only
    clear e es hl hx hp hF h1 h2 h3 hbi
    generalize xs.length = q at *
    generalize (lg xs 0).blk = b at *
    go_enter Try.func34, Try.ntmps34
    go_wp2
    go_ret2
    exact ⟨rfl, rfl⟩
end Go.Proofs.Ytgohlbljdffelaa.AgInt
