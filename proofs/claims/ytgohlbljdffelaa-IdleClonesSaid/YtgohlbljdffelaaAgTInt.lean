/- agenda: Set. Own work of this seat. -/
import Derived.Test.YtgohlbljdffelaaAgSInt
namespace Go.Proofs.Ytgohlbljdffelaa.AgInt
open Go.RowKit Go.Proofs.Ytgohlbljdffelaa.Kit Go.Proofs.Ytgohlbljdffelaa.Cmp Go.Proofs.Ytgohlbljdffelaa.HeapP Go.Proofs.Ytgohlbljdffelaa.AgP
set_option linter.unusedVariables false
set_option linter.unusedSimpArgs false

/-- A tick as it counts. -/
def clipT (at_ : Int) : Int := max 0 (min at_ 1099511627776)

theorem set_old {w w' : World} {a : Nat} {F : Nat → Prop} {L : List (Ev Int)} {t : Nat} {xs ys : List It} {A : Option Addr} {c M m n : Nat} {f : Lit → Option Value} {i : Nat} {x : It} {k : Int} {v : Int}
    (hx : AgX w a A c M m n f xs t) (hs : Sorted L) (h2 : ∀ s ∈ L, s.turn ≤ (t : Int)) (h3 : ∀ k, F k → k < w.heap.size) (hp : (xs.map proj).Perm L) (hF : ∀ k, k = a ∨ k = M ∨ foot A xs k → F k) (hi : xs[i]? = some x) (hxk : x.key = k) (hnd : (L.map (·.key)).Nodup)
    (hys : HM w' a (.map (some M)) ((t + 1 : Nat) : Int) A c ys) (hpy : ys.Perm (xs.set i ⟨k, v, ((t + 1 : Nat) : Int), x.blk⟩)) (hh : HeapG le (lg ys) ys.length) (hst : Step (fun k => k = a ∨ foot A xs k) w w') : AgR w' a F (setL L k v ((t + 1 : Nat) : Int)) (t + 1) ∧ Step F w w' := by
  have hil := (List.getElem?_eq_some_iff.1 hi).1
  have hFs : Step F w w' := hst.mono (fun k _ hk => hF k (hk.imp id .inr))
  have hsz := hst.size
  have hmem : ∀ y ∈ ys, y.blk = x.blk ∨ y ∈ xs := fun y hy => by
    rcases List.mem_or_eq_of_mem_set (hpy.mem_iff.1 hy) with h | rfl
    · exact .inr h
    · exact .inl rfl
  have hfoot : ∀ k, foot A ys k → foot A xs k := by
    rintro k (e | ⟨y, hy, e⟩)
    · exact .inl e
    · rcases hmem y hy with h | h
      · exact .inr ⟨x, List.mem_of_getElem? hi, h ▸ e⟩
      · exact .inr ⟨y, h, e⟩
  refine ⟨⟨sorted_set hs k v (fun s hs' => by have := h2 s hs'; omega), fun s hs' => ?_, fun k hk => by have := h3 k hk; omega, ys, A, c, M, m, n, f, ⟨hys, hh, hx.mg.keep hst ?_, (hx.fm.upd (y := ⟨k, v, ((t + 1 : Nat) : Int), x.blk⟩) hi rfl hxk.symm).perm hpy, ⟨hx.ne.1, hx.ne.2.1, fun y hy => ?_⟩, fun y hy => ?_, by have := hx.nt; omega, ?_⟩, ?_, fun k hk => hF k (hk.imp id (Or.imp id (hfoot k)))⟩, hFs⟩
  · rcases mem_set.1 hs' with rfl | ⟨h, _⟩
    · exact Int.le_refl _
    · have := h2 s h; omega
  · rintro (e | e | ⟨y, hy, e⟩)
    · exact hx.ne.1 e
    · exact hx.ne.2.1 e
    · exact hx.ne.2.2 y hy e
  · rcases hmem y hy with h | h
    · rw [h]; exact hx.ne.2.2 x (List.mem_of_getElem? hi)
    · exact hx.ne.2.2 y h
  · rcases List.mem_or_eq_of_mem_set (hpy.mem_iff.1 hy) with h | rfl
    · exact hx.kok y h
    · show KOk k
      rw [← hxk]
      exact hx.kok x (List.mem_of_getElem? hi)
  · rw [hpy.length_eq, List.length_set]
    have := hx.lt
    omega
  · obtain ⟨r, r1, r2⟩ := perm_set_at (y := (⟨k, v, ((t + 1 : Nat) : Int), x.blk⟩ : It)) hi
    have q1 := (r1.map proj).trans hp
    rw [List.map_cons] at q1
    have q2 := perm_drop hnd q1
    rw [show (proj x).key = k from hxk] at q2
    have q3 := (hpy.map proj).trans (r2.symm.map proj)
    rw [List.map_cons] at q3
    exact q3.trans (((List.perm_cons _).2 q2).trans (perm_set L k v _).symm)

theorem set_new {w w' : World} {a : Nat} {F : Nat → Prop} {L : List (Ev Int)} {t : Nat} {xs ys : List It} {A A' : Option Addr} {c c' M m n m' b : Nat} {f : Lit → Option Value} {k : Int} {v : Int}
    (hx : AgX w a A c M m n f xs t) (hs : Sorted L) (h2 : ∀ s ∈ L, s.turn ≤ (t : Int)) (h3 : ∀ k, F k → k < w.heap.size) (hp : (xs.map proj).Perm L) (hF : ∀ k, k = a ∨ k = M ∨ foot A xs k → F k) (hk : KOk k) (hn : ∀ x ∈ xs, x.key ≠ k) (hnL : ∀ s ∈ L, s.key ≠ k)
    (hb0 : w.heap.size ≤ b) (hb1 : b < w'.heap.size)
    (hys : HM w' a (.map (some M)) ((t + 1 : Nat) : Int) A' c' ys) (hpy : ys.Perm (xs ++ [⟨k, v, ((t + 1 : Nat) : Int), b⟩])) (hh : HeapG le (lg ys) ys.length) (hmg : MG Try.prog 3 w' M (n + 1) m' (putF f (ilit k) (.pointer (some ⟨b, 0, none⟩))))
    (hA : blockOf A' = blockOf A ∨ ∃ j, blockOf A' = some j ∧ w.heap.size ≤ j) (hst : Step (fun j => j = a ∨ j = M ∨ foot A xs j) w w') : ∃ F', AgR w' a F' (setL L k v ((t + 1 : Nat) : Int)) (t + 1) ∧ Step F w w' ∧ ∀ j, F' j → F j ∨ w.heap.size ≤ j := by
  have hFs : Step F w w' := hst.mono (fun k _ hk => hF k hk)
  have hsz := hst.size
  have hlen := hpy.length_eq
  rw [List.length_append, List.length_singleton] at hlen
  have hml : M < w.heap.size := hx.mg.lt
  have hmem : ∀ y ∈ ys, y = ⟨k, v, ((t + 1 : Nat) : Int), b⟩ ∨ y ∈ xs := fun y hy => by
    rcases List.mem_append.1 (hpy.mem_iff.1 hy) with h | h
    · exact .inr h
    · exact .inl (by simpa using h)
  refine ⟨fun j => F j ∨ (w.heap.size ≤ j ∧ j < w'.heap.size), ⟨sorted_set hs k v (fun s hs' => by have := h2 s hs'; omega), fun s hs' => ?_, fun j hj => ?_, ys, A', c', M, m', n + 1, putF f (ilit k) (.pointer (some ⟨b, 0, none⟩)), ⟨hys, hh, hmg, (hx.fm.put (x := (⟨k, v, ((t + 1 : Nat) : Int), b⟩ : It)) hn).perm hpy, ⟨hx.ne.1, ?_, fun y hy => ?_⟩, fun y hy => ?_, by have := hx.nt; omega, ?_⟩, ?_, fun j hj => ?_⟩, hFs, fun j hj => hj.imp id And.left⟩
  · rcases mem_set.1 hs' with rfl | ⟨h, _⟩
    · exact Int.le_refl _
    · have := h2 s h; omega
  · rcases hj with h | h
    · have := h3 j h; omega
    · omega
  · rcases hA with e | ⟨j, e, hj⟩
    · rw [e]; exact hx.ne.2.1
    · rw [e]
      intro e'
      obtain rfl := Option.some.inj e'
      omega
  · rcases hmem y hy with rfl | h
    · show b ≠ M; omega
    · exact hx.ne.2.2 y h
  · rcases hmem y hy with rfl | h
    · exact hk
    · exact hx.kok y h
  · have := hx.lt; omega
  · have q1 := hpy.map proj
    rw [List.map_append] at q1
    have q2 : (xs.map proj ++ [(⟨k, v, ((t + 1 : Nat) : Int)⟩ : Ev Int)]).Perm ((⟨k, v, ((t + 1 : Nat) : Int)⟩ : Ev Int) :: L) := (List.perm_append_singleton _ _).trans ((List.perm_cons _).2 hp)
    have q3 := perm_set L k v ((t + 1 : Nat) : Int)
    rw [drop_none hnL] at q3
    exact (q1.trans q2).trans q3.symm
  · rcases hj with e | e | e | ⟨y, hy, e⟩
    · exact .inl (hF j (.inl e))
    · exact .inl (hF j (.inr (.inl e)))
    · rcases hA with e' | ⟨j', e', hj'⟩
      · exact .inl (hF j (.inr (.inr (.inl (by rw [← e']; exact e)))))
      · rw [e] at e'
        obtain rfl := Option.some.inj e'
        exact .inr ⟨hj', hys.row.lt e⟩
    · rcases hmem y hy with rfl | h
      · exact .inr ⟨by rw [← e]; exact hb0, by rw [← e]; exact hb1⟩
      · exact .inl (hF j (.inr (.inr (.inr ⟨y, h, e⟩))))

theorem HM.turned {w w' : World} {a : Nat} {M : Value} {turn turn' : Int} {A : Option Addr} {c : Nat} {xs : List It} (h : HM w a M turn A c xs) (hs : Step (· = a) w w') (hb : Blk w' a 72 [.slice A xs.length c, M, .int .i64 turn']) : HM w' a M turn' A c xs :=
  ⟨hb, h.row.keep hs (fun k hk e => h.nA (by rw [← e]; exact hk)), fun i x hi => (h.itm i x hi).keep hs (h.na x (List.mem_of_getElem? hi)).1, h.nd, h.na, h.nA⟩

set_option maxRecDepth 100000 in
set_option maxHeartbeats 1000000 in
theorem set_calls {w : World} {a : Nat} {F : Nat → Prop} {L : List (Ev Int)} {t : Nat} (h : AgR w a F L t) (ht : t ≤ 90000) {k : Int} (hk : KOk k) (v0 : Int) :
    Calls Try.prog 10 #[.pointer (some ⟨a, 0, none⟩), Value.int IntKind.i64 k, .int .i64 v0] w fun e w' => e = .returned (.tuple #[]) ∧ ∃ F', AgR w' a F' (setL L k (clipT v0) ((t + 1 : Nat) : Int)) (t + 1) ∧ Step F w w' ∧ ∀ j, F' j → F j ∨ w.heap.size ≤ j := by
  have hnd := h.nodup
  obtain ⟨h1, h2, h3, xs, A, c, M, m, n, f, hx, hp, hF⟩ := id h
  have hBa := hx.hm.blk
  have c2 := hBa.cell (i := 2) rfl
  have f2 := hBa.free 2
  have hal := hBa.lt
  have hclip : (if (0 : Int) < (if (1099511627776 : Int) < v0 then 1099511627776 else v0) then (if (1099511627776 : Int) < v0 then 1099511627776 else v0) else 0) = clipT v0 := by
    unfold clipT
    by_cases h1 : (1099511627776 : Int) < v0
    · simp only [if_pos h1]; rw [if_pos (by omega)]; omega
    · simp only [if_neg h1]
      by_cases h2 : 0 < v0
      · rw [if_pos h2]; omega
      · rw [if_neg h2]; omega
  obtain ⟨u, hu⟩ : ∃ u, t + 1 = u := ⟨_, rfl⟩
  have ecast : ((t : Nat) : Int) + 1 = (u : Int) := by omega
  have hlt := hx.lt
  have hnt := hx.nt
  have hMa := hx.ne.1
  rcases find_it hp hnd k with ⟨e1, e2, e3⟩ | ⟨i, x, hi, hxk, e1⟩
  · have HX := Lib.hid hx
    have HLK := Lib.hid (fun w1 (hs : Step (· = a) w w1) => (by
      have := (hx.mg.keep hs hMa).look_ok kkeyed Try.underlying68 (zptr w1) (ilit_ok k) (kkey hk)
      rw [(hx.fm k).2 e2] at this
      exact this : (Instr.lookup 68 (.map (some M)) (Value.int IntKind.i64 k) true).run Try.prog w1 = .ok (.tuple #[.pointer none, .bool false]) w1))
    have HBA := Lib.hid hBa
    have HFIN := Lib.hid (fun w' ys A' c' m' b hb0 hb1 (hys : HM w' a (.map (some M)) ((t + 1 : Nat) : Int) A' c' ys) hpy hh hmg hA hst => set_new (v := clipT v0) (w' := w') (ys := ys) (b := b) (m' := m') hx h1 h2 h3 hp hF hk e2 e3 hb0 hb1 hys hpy hh hmg hA hst)
    rw [hu] at HFIN ⊢
    have HU := Lib.hid hu
    have hkk := kkey hk
    have hcs : ∀ b : Nat, icells (⟨k, clipT v0, (u : Int), b⟩ : It) 0 = [Value.int IntKind.i64 k, .int .i64 (clipT v0), .int .i64 (u : Int), .int .i64 0] := fun _ => rfl
    have HCS := Lib.hid hcs
    clear h hx hp hF h1 h2 h3 e1 e2 e3 hnd hBa hu hcs
    go_enter Try.func10, Try.ntmps10
    go_upto_region 2 with (fail)
    refine put_plain HBA.out ?_
    intro w1 hB1 hs1
    have d1 := hB1.cell (i := 1) rfl
    have d2 := hB1.cell (i := 2) rfl
    have hlook := HLK.out w1 hs1
    have hsz1 := hs1.size
    clear c2 f2
    go_upto_region 7 with (fail)
    all_goals
      refine alloc_next (cs := [Value.int IntKind.i64 k, .int .i64 (clipT v0), .int .i64 (u : Int), .int .i64 0]) ?_
      intro w2 hN2 hs2
      rw [← HCS.out w1.heap.size] at hN2
      have hH1 := HX.out.hm.turned (turn' := (u : Int)) hs1 hB1
      have hH2 := hH1.same hs2
      have hM2 := (HX.out.mg.keep hs1 hMa).keep hs2 (fun h => h)
      have d1' := hH2.blk.cell (i := 1) rfl
      have hMl := HX.out.mg.lt
      have hfl : ∀ y ∈ xs, y.blk < w.heap.size := fun y hy => by
        obtain ⟨j, hj⟩ := List.getElem?_of_mem hy
        exact (HX.out.hm.itm j y hj).lt
      have hAl : ∀ j, blockOf A = some j → j < w.heap.size := fun j hj => HX.out.hm.row.lt hj
      have hxb : ∀ y ∈ xs, y.blk ≠ w1.heap.size := fun y hy => by have := hfl y hy; omega
      have hxA : blockOf A ≠ some w1.heap.size := fun e => by have := hAl _ e; omega
      have hxa : w1.heap.size ≠ a := by omega
      have hxM : w1.heap.size ≠ M := by omega
      have HPU := Lib.hid (fun w3 (hs3 : Step (· = M) w2 w3) => hpush_calls (hH2.still hs3 (fun e => HX.out.ne.1 e.symm) (fun j hj e => by
        rcases hj with hj | ⟨y, hy, hj⟩
        · exact HX.out.ne.2.1 (e ▸ hj)
        · exact HX.out.ne.2.2 y hy (hj.trans e))) (by omega) HX.out.hp ⟨k, clipT v0, (u : Int), w1.heap.size⟩ (hN2.keep hs3 hxM) hxb hxa hxA)
      have HM2 := Lib.hid hM2
      have HS12 := Lib.hid (hs1.same (hs2.mono (fun _ _ h => h.elim)))
      have hsz2 := hN2.lt
      have hne : n ≤ 1000000 := by omega
      have HHM : w1.heap.size = w1.heap.size := rfl
      generalize hbn : w1.heap.size = b at *
      have HBN := Lib.hid hbn
      clear hbn HHM d1 d2 hlook hM2 hH1 hH2 hN2 hfl hAl
      unfold ptr at HPU
      go_wp2_with (first | (go_at_call 33; refine (HPU.out _ hs3).mono ?_; rintro e w4 ⟨rfl, A', c', ys, hys, hpy, hhy, hs4, hA'⟩) | (refine wpList_mg_put rfl (.tmp 60) (.tmp 61) (.tmp 62) 68 rfl HM2.out kkeyed Try.underlying68 hne (val := .pointer (some ⟨b, 0, none⟩)) (ilit_ok k) hkk rfl rfl rfl ?_; intro w3 hM3 hs3; have d3 := hs3.size))
      all_goals
        have hsz2' := HS12.out.size
        have hsz4 := hs4.size
        have hall : Step (fun j => j = a ∨ j = M ∨ foot A xs j) w w4 :=
          ((HS12.out.mono (fun _ _ h => .inl h)).same (hs3.mono (fun _ _ h => .inr (.inl h)))).trans hs4 (fun j hj h => by
            rcases h with h | h | h
            · exact .inl h
            · exact .inr (.inr h)
            · omega)
        obtain ⟨F', r1, r2, r3⟩ := HFIN.out w4 ys A' c' _ b hsz1 (by omega) hys hpy hhy (hM3.keep hs4 (fun h => by
            rcases h with h | (h | ⟨y, hy, h⟩) | h
            · exact HX.out.ne.1 h
            · exact HX.out.ne.2.1 h
            · exact HX.out.ne.2.2 y hy h
            · exact hxM h.symm)) (hA'.imp id (fun ⟨j, h1, h2⟩ => ⟨j, h1, by omega⟩)) hall
        go_end0
        exact ⟨rfl, F', r1, r2, r3⟩
  · have hil := (List.getElem?_eq_some_iff.1 hi).1
    have hxn := hx.hm.na x (List.mem_of_getElem? hi)
    have HX := Lib.hid hx
    have HLK := Lib.hid (fun w1 (hs : Step (· = a) w w1) => (by
      have := (hx.mg.keep hs hMa).look_ok kkeyed Try.underlying68 (zptr w1) (ilit_ok k) (kkey hk)
      rw [(hx.fm k).1 x (List.mem_of_getElem? hi) hxk] at this
      exact this : (Instr.lookup 68 (.map (some M)) (Value.int IntKind.i64 k) true).run Try.prog w1 = .ok (.tuple #[.pointer (some ⟨x.blk, 0, none⟩), .bool true]) w1))
    have HBX := Lib.hid (hx.hm.itm i x hi)
    have HBA := Lib.hid hBa
    have HFIN := Lib.hid (fun w' ys (hys : HM w' a (.map (some M)) ((t + 1 : Nat) : Int) A c ys) hpy hh hst => set_old (v := clipT v0) (w' := w') (ys := ys) hx h1 h2 h3 hp hF hi hxk hnd hys hpy hh hst)
    rw [hu] at HFIN ⊢
    have HHP := Lib.hid hx.hp
    have HI := Lib.hid hi
    have hfx : foot A xs x.blk := .inr ⟨x, List.mem_of_getElem? hi, rfl⟩
    have HXK := Lib.hid hxk
    have HU := Lib.hid hu
    clear h hx hp hF h1 h2 h3 e1 hnd hi hxk hBa hu
    go_enter Try.func10, Try.ntmps10
    go_upto_region 2 with (fail)
    refine put_plain HBA.out ?_
    intro w1 hB1 hs1
    have d1 := hB1.cell (i := 1) rfl
    have d2 := hB1.cell (i := 2) rfl
    have hlook := HLK.out w1 hs1
    have hX1 := HBX.out.keep hs1 hxn.1
    have x1 := hX1.cell (i := 1) rfl
    have g1 := hX1.free 1
    have x2 := hX1.cell (i := 2) rfl
    have g2 := hX1.free 2
    clear c2 f2
    go_upto_region 5 with (fail)
    refine put_plain (w := w1.setCell ⟨x.blk, 1, none⟩ (.int .i64 (clipT v0))) (hX1.set 1 (.int .i64 (clipT v0))) ?_
    intro w2 hX2 hs2'
    have hs2 : Step (· = x.blk) w1 w2 := (step_put w1 x.blk 1 (.int .i64 (clipT v0))).same hs2'
    have hB2 := hB1.keep hs2 (fun e => hxn.1 e.symm)
    have hs12 : Step (fun k => k = a ∨ k = x.blk) w w2 := (hs1.mono (fun _ _ h => .inl h)).same (hs2.mono (fun _ _ h => .inr h))
    have hHM := HX.out.hm.upd (y := (⟨k, clipT v0, (u : Int), x.blk⟩ : It)) (turn' := (u : Int)) HI.out rfl hs12 hB2 (by have := HXK.out; rw [← this]; exact hX2)
    have hbad : Bad1 le (lg (xs.set i ⟨k, clipT v0, (u : Int), x.blk⟩)) i (xs.set i ⟨k, clipT v0, (u : Int), x.blk⟩).length := by
      rw [List.length_set]
      refine fix_bad le_tr HHP.out (fun j hj => ?_)
      unfold lg
      rw [List.getD_eq_getElem?_getD, List.getElem?_set_ne (fun e => hj e.symm), ← List.getD_eq_getElem?_getD]
    have hFX := fun w3 (hs : Step (fun _ => False) w2 w3) => fix_calls (hHM.same hs) (i := i) (by rw [List.length_set]; exact hil) (by rw [List.length_set]; omega) hbad
    have HFX := Lib.hid hFX
    have hft : ∀ j, foot A (xs.set i ⟨k, clipT v0, (u : Int), x.blk⟩) j → foot A xs j := by
      rintro j (e | ⟨y, hy, e⟩)
      · exact .inl e
      · rcases List.mem_or_eq_of_mem_set hy with h | rfl
        · exact .inr ⟨y, h, e⟩
        · exact .inr ⟨x, List.mem_of_getElem? HI.out, e⟩
    have HFT := Lib.hid hft
    have x3 := hX2.cell (i := 3) rfl
    clear x1 g1 x2 g2 hbad hFX hft hlook d1 d2 hHM
    go_still_tail 8, (by kernel_rfl)
    go_wp2_with (go_at_call 32; refine (HFX.out _ (Step.refl _ _).drew).mono ?_; rintro e w4 ⟨rfl, ys, hys, hpy, hhy, hs4⟩)
    all_goals
      obtain ⟨r1, r2⟩ := HFIN.out w4 ys hys hpy (by rw [hpy.length_eq]; exact hhy) ((hs12.mono (fun k _ h => h.imp id (fun h => h ▸ hfx))).same (((Step.refl _ _).drew).same (hs4.mono (fun k _ h => .inr (HFT.out k h)))))
      refine bodyPost_ret (results_none rfl _ _ _) rfl ?_
      exact ⟨rfl, F, r1, r2, fun j hj => .inl hj⟩
end Go.Proofs.Ytgohlbljdffelaa.AgInt
