/- agenda: Drop and Set. Own work of this seat. -/
import Derived.Test.YtgohlbljdffelaaAgIInt
namespace Go.Proofs.Ytgohlbljdffelaa.AgInt
open Go.RowKit Go.Proofs.Ytgohlbljdffelaa.Kit Go.Proofs.Ytgohlbljdffelaa.Cmp Go.Proofs.Ytgohlbljdffelaa.HeapP Go.Proofs.Ytgohlbljdffelaa.AgP
set_option linter.unusedVariables false
set_option linter.unusedSimpArgs false

set_option maxRecDepth 100000 in
set_option maxHeartbeats 1000000 in
theorem drop_calls {w : World} {a : Nat} {F : Nat → Prop} {L : List (Ev Int)} {t : Nat} (h : AgR w a F L t) (ht : t ≤ 100000) {k : Int} (hk : KOk k) :
    Calls Try.prog 37 #[.pointer (some ⟨a, 0, none⟩), Value.int IntKind.i64 k] w fun e w' => e = .returned (.bool (atL L k).isSome) ∧ AgR w' a F (dropL L k) t ∧ Step F w w' := by
  have hnd := h.nodup
  obtain ⟨h1, h2, h3, xs, A, c, M, m, n, f, hx, hp, hF⟩ := id h
  have c1 := hx.hm.blk.cell (i := 1) rfl
  have hlook := hx.mg.look_ok kkeyed Try.underlying68 (zptr w) (ilit_ok k) (kkey hk)
  rcases find_it hp hnd k with ⟨e1, e2, e3⟩ | ⟨i, x, hi, hxk, e1⟩
  · rw [e1, drop_none e3]
    rw [(hx.fm k).2 e2] at hlook
    simp only [Option.getD_none, Option.isSome_none] at hlook ⊢
    clear hx hp hF h1 h2 h3 e1 e2 e3 hnd
    go_enter Try.func37, Try.ntmps37
    go_wp2
    go_ret
    exact ⟨rfl, h, Step.refl _ _⟩
  · rw [e1]
    rw [(hx.fm k).1 x (List.mem_of_getElem? hi) hxk] at hlook
    simp only [Option.getD_some, Option.isSome_some] at hlook ⊢
    have hil := (List.getElem?_eq_some_iff.1 hi).1
    have hbx := hx.hm.itm i x hi
    have d3 := hbx.cell (i := 3) rfl
    have hxlen := hx.lt
    obtain ⟨q, hq⟩ : ∃ q, xs.length = q + 1 := ⟨xs.length - 1, by omega⟩
    have HP := fun w' (hs : Step (fun _ => False) w w') => hremove_calls (hx.hm.same hs) (m := q) (i := i) hq (by omega) (by omega) hx.hp
    have hMf : ∀ k, (k = a ∨ foot A xs k) → k ≠ M := by
      rintro k (e | e | ⟨x, hx', e⟩) rfl
      · exact hx.ne.1 e
      · exact hx.ne.2.1 e
      · exact hx.ne.2.2 x hx' e
    have hMF := hF M (.inr (.inl rfl))
    have hff : ∀ k, k = a ∨ foot A xs k → F k := fun k hk => hF k (hk.imp id .inr)
    have hlx : lg xs i = x := lg_some hi
    rw [hlx] at HP
    have H := Lib.hid hx
    have HPM := Lib.hid hp
    have HREST := Lib.hid (⟨h1, h2, h3, hF⟩ : Sorted L ∧ (∀ q ∈ L, q.turn ≤ (t : Int)) ∧ (∀ k, F k → k < w.heap.size) ∧ ∀ k, k = a ∨ k = M ∨ foot A xs k → F k)
    have HND := Lib.hid hnd
    have hkk := kkey hk
    have HXK := Lib.hid hxk
    unfold ptr at hlook HP
    have HPH := Lib.hid HP
    clear h hx hp hF h1 h2 h3 e1 hnd hi hxk hq hlx hbx HP
    go_enter Try.func37, Try.ntmps37
    go_upto_region 3 with (fail)
    go_still_tail 8, (by kernel_rfl)
    go_upto_region 4 with (go_at_call 60; refine (HPH.out _ (Step.refl _ _).drew).mono ?_; rintro e w2 ⟨rfl, ys, hys, hpy, hhy, hs2'⟩; have hs2 : Step (fun k => k = a ∨ foot A xs k) w w2 := (Step.refl _ _).drew.same hs2'; have c2 := hys.blk.cell (i := 1) rfl)
    have hM2 := H.out.mg.keep hs2 (fun e => hMf M e rfl)
    go_wp2_with (refine wpList_mg_drop rfl (.tmp 29) (.tmp 30) 68 rfl hM2 kkeyed Try.underlying68 (ilit_ok _) hkk rfl rfl ?_; intro w3 hM3 hs3)
    rw [← HXK.out] at hM3
    have hfin := H.out.off (hys.still hs3 (fun e => H.out.ne.1 e.symm) (fun k hk e => hMf k (.inr (by
        rcases hk with hk | ⟨y, hy, hk⟩
        · exact .inl hk
        · exact .inr ⟨y, hpy.mem_iff.1 (List.mem_cons_of_mem _ hy), hk⟩)) e)) hpy hhy hM3
    go_ret
    have hpys : (ys.map proj).Perm (dropL L k) := by
      have q1 := (hpy.map proj).trans HPM.out
      rw [List.map_cons] at q1
      have q2 := perm_drop HND.out q1
      rwa [show (proj x).key = k from HXK.out] at q2
    have hst : Step F w w3 := (hs2.mono (fun k _ h => hff k h)).same (hs3.mono (fun k _ e => e ▸ hMF))
    have hsz := hst.size
    obtain ⟨r1, r2, r3, r4⟩ := HREST.out
    exact ⟨rfl, ⟨sorted_drop r1 k, fun q hq => r2 q (mem_drop.1 hq).1, fun k hk => by have := r3 k hk; omega, ys, A, c, M, _, n, _, hfin, hpys, fun k hk => by
      rcases hk with e | e | e | ⟨y, hy, e⟩
      · exact r4 k (.inl e)
      · exact r4 k (.inr (.inl e))
      · exact r4 k (.inr (.inr (.inl e)))
      · exact r4 k (.inr (.inr (.inr ⟨y, hpy.mem_iff.1 (List.mem_cons_of_mem _ hy), e⟩)))⟩, hst⟩

/-- One item of the pile is another one, in its block. -/
theorem HM.upd {w w' : World} {a : Nat} {M : Value} {turn turn' : Int} {A : Option Addr} {c : Nat} {xs : List It} {i : Nat} {x y : It} (h : HM w a M turn A c xs) (hi : xs[i]? = some x) (hb : y.blk = x.blk) (hs : Step (fun k => k = a ∨ k = x.blk) w w') (ha : Blk w' a 72 [.slice A xs.length c, M, .int .i64 turn']) (hy : Blk w' x.blk 76 (icells y i)) : HM w' a M turn' A c (xs.set i y) := by
  have hil := (List.getElem?_eq_some_iff.1 hi).1
  have hmb : (xs.set i y).map (·.blk) = xs.map (·.blk) := by
    rw [List.map_set]
    apply List.ext_getElem?
    intro j
    rw [List.getElem?_set]
    by_cases e : i = j
    · subst e
      rw [if_pos rfl, List.getElem?_map, hi]
      simp [hil, hb]
    · rw [if_neg e]
  have hmp : (xs.set i y).map ptr = xs.map ptr := by
    have e1 : (fun z : It => ptr z) = (fun b : Nat => Value.pointer (some ⟨b, 0, none⟩)) ∘ (·.blk) := rfl
    have e2 : xs.map ptr = (xs.map (·.blk)).map (fun b : Nat => Value.pointer (some ⟨b, 0, none⟩)) := by rw [List.map_map]; rfl
    have e3 : (xs.set i y).map ptr = ((xs.set i y).map (·.blk)).map (fun b : Nat => Value.pointer (some ⟨b, 0, none⟩)) := by rw [List.map_map]; rfl
    rw [e2, e3, hmb]
  have hxn := h.na x (List.mem_of_getElem? hi)
  refine ⟨by rw [List.length_set]; exact ha, ?_, fun j z hj => ?_, by rw [hmb]; exact h.nd, fun z hz => ?_, h.nA⟩
  · rw [hmp, List.length_set]
    exact h.row.keep hs (fun k hk e => e.elim (fun e => h.nA (by rw [← e]; exact hk)) (fun e => hxn.2 (by rw [← e]; exact hk)))
  · rw [List.getElem?_set] at hj
    by_cases e : i = j
    · subst e
      rw [if_pos rfl, if_pos hil] at hj
      obtain rfl := Option.some.inj hj
      rw [hb]
      exact hy
    · rw [if_neg e] at hj
      have hjl := (List.getElem?_eq_some_iff.1 hj).1
      refine (h.itm j z hj).keep hs (fun e' => e'.elim (h.na z (List.mem_of_getElem? hj)).1 (fun e' => e ?_))
      have := nd_blk h.nd hjl hil (by rw [lg_some hj, lg_some hi]; exact e')
      exact this.symm
  · rcases List.mem_or_eq_of_mem_set hz with hz | rfl
    · exact h.na z hz
    · rw [hb]; exact hxn
theorem Fm.upd {f : Lit → Option Value} {xs : List It} (h : Fm f xs) {i : Nat} {x y : It} (hi : xs[i]? = some x) (hb : y.blk = x.blk) (hk : y.key = x.key) : Fm f (xs.set i y) := by
  have hil := (List.getElem?_eq_some_iff.1 hi).1
  intro k
  refine ⟨fun z hz hzk => ?_, fun hall => (h k).2 (fun z hz => ?_)⟩
  · rcases List.mem_or_eq_of_mem_set hz with hz | rfl
    · exact (h k).1 z hz hzk
    · have := (h k).1 x (List.mem_of_getElem? hi) (hk ▸ hzk)
      rw [this]
      unfold ptr
      rw [hb]
  · obtain ⟨j, hj⟩ := List.getElem?_of_mem hz
    by_cases e : i = j
    · subst e
      rw [hi] at hj
      obtain rfl := Option.some.inj hj
      have := hall y (List.mem_of_getElem? (i := i) (by rw [List.getElem?_set_self hil]))
      rwa [hk] at this
    · exact hall z (List.mem_of_getElem? (i := j) (by rw [List.getElem?_set_ne e]; exact hj))
theorem perm_set_at {xs : List It} {i : Nat} {x y : It} (hi : xs[i]? = some x) : ∃ r, (x :: r).Perm xs ∧ (y :: r).Perm (xs.set i y) := by
  obtain ⟨hil, e⟩ := List.getElem?_eq_some_iff.1 hi
  refine ⟨xs.take i ++ xs.drop (i + 1), ?_, ?_⟩
  · have h1 : xs = xs.take i ++ x :: xs.drop (i + 1) := by rw [← e, ← List.drop_eq_getElem_cons hil, List.take_append_drop]
    exact (List.perm_middle.symm).trans (List.Perm.of_eq h1.symm)
  · have h1 : xs.set i y = xs.take i ++ y :: xs.drop (i + 1) := List.set_eq_take_append_cons_drop ▸ (by rw [if_pos hil])
    exact (List.perm_middle.symm).trans (List.Perm.of_eq h1.symm)
end Go.Proofs.Ytgohlbljdffelaa.AgInt
