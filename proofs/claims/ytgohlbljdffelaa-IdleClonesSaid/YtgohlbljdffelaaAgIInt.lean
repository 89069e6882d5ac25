/- agenda: Pop, At, Drop. Own work of this seat. -/
import Derived.Test.YtgohlbljdffelaaAgHInt
namespace Go.Proofs.Ytgohlbljdffelaa.AgInt
open Go.RowKit Go.Proofs.Ytgohlbljdffelaa.Kit Go.Proofs.Ytgohlbljdffelaa.Cmp Go.Proofs.Ytgohlbljdffelaa.HeapP Go.Proofs.Ytgohlbljdffelaa.AgP
set_option linter.unusedVariables false
set_option linter.unusedSimpArgs false

/-- What is popped, up to a tick. -/
def popL (L : List (Ev Int)) (now : Int) : List (Ev Int) := match L with | [] => [] | s :: r => if now < s.tm then s :: r else r
def popV (L : List (Ev Int)) (now : Int) : Int × Int × Bool := match L with | [] => ((0 : Int), 0, false) | s :: r => if now < s.tm then ((0 : Int), 0, false) else (s.key, s.tm, true)

/-- An agenda out of its parts, behind a step that took one item out. -/
theorem AgX.off {w w' : World} {a : Nat} {A : Option Addr} {c M m n m' : Nat} {f : Lit → Option Value} {xs ys : List It} {x : It} {t : Nat} (h : AgX w a A c M m n f xs t) (hy : HM w' a (.map (some M)) (t : Int) A c ys) (hp : (x :: ys).Perm xs) (hh : HeapG le (lg ys) ys.length) (hm : MG Try.prog 3 w' M n m' (delF f (ilit x.key))) : AgX w' a A c M m' n (delF f (ilit x.key)) ys t := by
  have hsub : ∀ y ∈ ys, y ∈ xs := fun y hy => hp.mem_iff.1 (List.mem_cons_of_mem _ hy)
  have hfm := h.fm.perm hp
  have hnd : ((x :: ys).map (·.key)).Nodup := hfm.nodup ((hp.map (·.blk)).nodup_iff.2 h.hm.nd)
  rw [List.map_cons, List.nodup_cons] at hnd
  refine ⟨hy, hh, hm, hfm.del (fun y hy e => hnd.1 (e ▸ List.mem_map_of_mem hy)), ⟨h.ne.1, h.ne.2.1, fun y hy => h.ne.2.2 y (hsub y hy)⟩, fun y hy => h.kok y (hsub y hy), h.nt, ?_⟩
  have := hp.length_eq
  rw [List.length_cons] at this
  have := h.lt
  omega

set_option maxRecDepth 100000 in
set_option maxHeartbeats 1000000 in
theorem apop_calls {w : World} {a : Nat} {F : Nat → Prop} {L : List (Ev Int)} {t : Nat} (h : AgR w a F L t) (ht : t ≤ 100000) (now : Int) :
    Calls Try.prog 11 #[.pointer (some ⟨a, 0, none⟩), .int .i64 now] w fun e w' => e = .returned (.tuple #[Value.int IntKind.i64 (popV L now).1, .int .i64 (popV L now).2.1, .bool (popV L now).2.2]) ∧ AgR w' a F (popL L now) t ∧ Step F w w' := by
  have HF := first_calls h (by omega)
  obtain ⟨h1, h2, h3, xs, A, c, M, m, n, f, hx, hp, hF⟩ := id h
  cases L with
  | nil =>
    unfold firstL at HF
    unfold popV popL
    simp only at HF ⊢
    clear hx hp hF h1 h2 h3
    go_enter Try.func11, Try.ntmps11
    go_wp2_with (go_at_call 34; refine HF.mono ?_; rintro e w1 ⟨rfl, rfl⟩)
    go_ret3
    exact ⟨rfl, h, Step.refl _ _⟩
  | cons s r =>
    unfold firstL at HF
    unfold popV popL
    simp only at HF ⊢
    by_cases hnow : now < s.tm
    · simp only [if_pos hnow]
      clear hx hp hF h1 h2 h3
      go_enter Try.func11, Try.ntmps11
      go_wp2_with (go_at_call 34; refine HF.mono ?_; rintro e w1 ⟨rfl, rfl⟩)
      go_ret3
      exact ⟨rfl, h, Step.refl _ _⟩
    · simp only [if_neg hnow]
      obtain ⟨hl, es⟩ := top hx.hp hp h1 rfl
      have HP := hpop_calls hx.hm (m := r.length) hl (by have := hx.lt; omega) hx.hp
      have hta : ∀ (b : Nat) (w : World), (Instr.typeAssert (.iface 73 (.pointer (some ⟨b, 0, none⟩))) 20 73 false).run Try.prog w = .ok (.pointer (some ⟨b, 0, none⟩)) w := fun _ _ => by kernel_rfl
      have hk : (lg xs 0).key = s.key := by rw [← es]; rfl
      have htm : (lg xs 0).tm = s.tm := by rw [← es]; rfl
      have hmem : lg xs 0 ∈ xs := lg_mem (by omega)
      have hkk := kkey (hx.kok _ hmem)
      have hfa := hF a (.inl rfl)
      have hff : ∀ k, k = a ∨ foot A xs k → F k := fun k hk => hF k (hk.imp id .inr)
      have H := Lib.hid hx
      have HPM := Lib.hid hp
      have hMf : ∀ k, (k = a ∨ foot A xs k) → k ≠ M := by
        rintro k (e | e | ⟨x, hx', e⟩) rfl
        · exact hx.ne.1 e
        · exact hx.ne.2.1 e
        · exact hx.ne.2.2 x hx' e
      have hMF := hF M (.inr (.inl rfl))
      have HREST := Lib.hid (⟨h2, h3, hF⟩ : (∀ q ∈ s :: r, q.turn ≤ (t : Int)) ∧ (∀ k, F k → k < w.heap.size) ∧ ∀ k, k = a ∨ k = M ∨ foot A xs k → F k)
      have HH1 := Lib.hid h1
      have HES := Lib.hid es
      rw [← htm] at hnow
      rw [← hk, ← htm]
      unfold ptr at HP
      rw [← htm] at HF
      clear h hx hp hF h1 h2 h3 hk htm hl es
      go_enter Try.func11, Try.ntmps11
      go_upto_region 5 with (first | (go_at_call 34; refine HF.mono ?_; rintro e w1 ⟨rfl, rfl⟩) | (go_at_call 35; refine HP.mono ?_; rintro e w2 ⟨rfl, ys, hys, hpy, hhy, ⟨p, hbx⟩, hs2⟩))
      have hM2 := H.out.mg.keep hs2 (fun e => hMf M e rfl)
      have c1 := hys.blk.cell (i := 1) rfl
      have d0 := hbx.cell (i := 0) rfl
      have d1 := hbx.cell (i := 1) rfl
      go_still_tail 8, (by kernel_rfl)
      go_wp2_with (refine wpList_mg_drop rfl (.tmp 32) (.tmp 36) 68 rfl (hM2.keep ((Step.refl (fun _ => False) _).drew) (fun h => h)) kkeyed Try.underlying68 (ilit_ok _) hkk rfl rfl ?_; intro w3 hM3 hs3)
      have s23 : Step (· = M) w2 w3 := ((Step.refl (· = M) w2).drew).same hs3
      have hb3 := hbx.keep s23 (fun e => H.out.ne.2.2 _ hmem e)
      have e0 := hb3.cell (i := 0) rfl
      have e1 := hb3.cell (i := 1) rfl
      have hfin := H.out.off (hys.still s23 (fun e => H.out.ne.1 e.symm) (fun k hk e => hMf k (.inr (by
        rcases hk with hk | ⟨y, hy, hk⟩
        · exact .inl hk
        · exact .inr ⟨y, hpy.mem_iff.1 (List.mem_cons_of_mem _ hy), hk⟩)) e)) hpy hhy hM3
      have HFIN := Lib.hid hfin
      have HPY := Lib.hid hpy
      clear c1 d0 d1 hfin hpy
      go_quiet (fail)
      go_wp2
      go_ret3
      have hpys : (ys.map proj).Perm r := by
        have q1 := HPY.out.map proj
        rw [List.map_cons, HES.out] at q1
        exact (List.perm_cons _).1 (q1.trans HPM.out)
      have hst : Step F w w3 := (hs2.mono (fun k _ h => hff k h)).same (s23.mono (fun k _ e => e ▸ hMF))
      have hsz := hst.size
      obtain ⟨r2, r3, r4⟩ := HREST.out
      have hok : AgR w3 a F r t := ⟨(List.pairwise_cons.1 HH1.out).2, fun q hq => r2 q (List.mem_cons_of_mem _ hq), fun k hk => by have := r3 k hk; omega, ys, A, c, M, _, n, _, HFIN.out, hpys, fun k hk => by
        rcases hk with e | e | e | ⟨y, hy, e⟩
        · exact r4 k (.inl e)
        · exact r4 k (.inr (.inl e))
        · exact r4 k (.inr (.inr (.inl e)))
        · exact r4 k (.inr (.inr (.inr ⟨y, HPY.out.mem_iff.1 (List.mem_cons_of_mem _ hy), e⟩)))⟩
      exact ⟨rfl, hok.same ((Step.refl _ _).drewN _), hst.drewN _⟩

/-- The item that bears a key. -/
theorem find_it {xs : List It} {L : List (Ev Int)} (hp : (xs.map proj).Perm L) (hk : (L.map (·.key)).Nodup) (k : Int) :
    (atL L k = none ∧ (∀ x ∈ xs, x.key ≠ k) ∧ ∀ s ∈ L, s.key ≠ k) ∨ ∃ (i : Nat) (x : It), xs[i]? = some x ∧ x.key = k ∧ atL L k = some (proj x) := by
  by_cases h : ∃ x ∈ xs, x.key = k
  · obtain ⟨x, hx, hxk⟩ := h
    obtain ⟨i, hi⟩ := List.getElem?_of_mem hx
    refine .inr ⟨i, x, hi, hxk, ?_⟩
    have hm : proj x ∈ L := hp.mem_iff.1 (List.mem_map_of_mem hx)
    cases hf : atL L k with
    | none =>
      have := List.find?_eq_none.1 hf (proj x) hm
      exact absurd (show (proj x).key = k from hxk) (by simpa using this)
    | some s =>
      have h1 := List.find?_some hf
      have h2 := List.mem_of_find?_eq_some hf
      simp only [decide_eq_true_eq] at h1
      obtain ⟨i1, e1⟩ := List.getElem?_of_mem h2
      obtain ⟨i2, e2⟩ := List.getElem?_of_mem hm
      have l1 := (List.getElem?_eq_some_iff.1 e1).1
      have l2 := (List.getElem?_eq_some_iff.1 e2).1
      have : i1 = i2 := by
        have g1 : (L.map (·.key))[i1]? = some k := by rw [List.getElem?_map, e1]; exact congrArg some h1
        have g2 : (L.map (·.key))[i2]? = some k := by rw [List.getElem?_map, e2]; exact congrArg some hxk
        have l1' : i1 < (L.map (·.key)).length := by simpa using l1
        have l2' : i2 < (L.map (·.key)).length := by simpa using l2
        rw [List.getElem?_eq_getElem l1'] at g1
        rw [List.getElem?_eq_getElem l2'] at g2
        have g := (Option.some.inj g1).trans (Option.some.inj g2).symm
        rcases Nat.lt_trichotomy i1 i2 with h | h | h
        · exact absurd g ((List.pairwise_iff_getElem.1 hk) i1 i2 l1' l2' h)
        · exact h
        · exact absurd g.symm ((List.pairwise_iff_getElem.1 hk) i2 i1 l2' l1' h)
      subst this
      rw [e1] at e2
      exact congrArg some (Option.some.inj e2)
  · have hn : ∀ x ∈ xs, x.key ≠ k := fun x hx e => h ⟨x, hx, e⟩
    have hL : ∀ s ∈ L, s.key ≠ k := fun s hs => by
      obtain ⟨x, hx, rfl⟩ := List.mem_map.1 (hp.mem_iff.2 hs)
      exact hn x hx
    exact .inl ⟨List.find?_eq_none.2 (fun s hs => by simpa using hL s hs), hn, hL⟩

theorem zptr (w : World) : (zeroValue 73).run Try.prog w = .ok (.pointer none) w := by kernel_rfl
def atV (L : List (Ev Int)) (k : Int) : Int × Bool := match atL L k with | none => (0, false) | some s => (s.tm, true)
end Go.Proofs.Ytgohlbljdffelaa.AgInt
