/- agenda: Clone. Own work of this seat. -/
import Derived.Test.YtghiklaeenhljaaMHealthEpochs2
import Derived.Test.YtghiklaeenhljaaRSeg
namespace Go.Proofs.Ytghiklaeenhljaa.AgStr
open Go.RowKit Go.Proofs.Ytghiklaeenhljaa.Kit Go.Proofs.Ytghiklaeenhljaa.AgP Go.Proofs.Ytghiklaeenhljaa.HeapP Go.Proofs.Ytghiklaeenhljaa
set_option linter.unusedVariables false
set_option linter.unusedSimpArgs false

theorem i0ptr : ∃ i, Try.prog.info? 118 = some i ∧ i.zero = some (.pointer none) ∧ i.size = 1 ∧ i.bytes = 8 := by
  obtain ⟨i, hi, hp⟩ := Option.map_eq_some_iff.1 (by kernel_rfl : (Try.prog.info? 118).map (fun i => (i.zero, i.size, i.bytes)) = some (some (.pointer none), 1, 8))
  simp only [Prod.mk.injEq] at hp
  exact ⟨i, hi, hp⟩
theorem app_ptr {w : World} {A : Option Addr} {n c b : Nat} {l : List Value} {v : Value} (h : FSeg w 118 1 A n c l) (hv : v.oneCell' = true) (hB : Blk w b 118 [v]) (hb : n + 1 ≤ 1000000) :
    ∃ A' c' w', (Builtin.append_ #[112, 112] 112 #[.slice A n c, .slice (some ⟨b, 0, none⟩) 1 1]).run Try.prog w = .ok (.slice A' (n + 1) c') w' ∧ FSeg w' 118 1 A' (n + 1) c' (l ++ [v]) ∧ Step (fun k => blockOf A = some k) w w' ∧ (blockOf A' = blockOf A ∨ ∃ k, blockOf A' = some k ∧ w.heap.size ≤ k) := by
  obtain ⟨i0, hi0, hz0, hs0, hy0⟩ := i0ptr
  exact run_app_one 112 118 Try.underlying112 hi0 hz0 rfl hs0 hy0 (by omega) h rfl (fun x hx => by
    obtain rfl : x = v := by simpa using hx
    exact hv) hB hb

/-- The clone so far: its items are those of xs one by one, in blocks of its own. -/
structure CX (w0 w : World) (a2 M2 : Nat) (A2 : Option Addr) (c2 n2 m2 : Nat) (f2 : Lit → Option Value) (t : Nat) (xs ys : List It) : Prop where
  hm : HM w a2 (.map (some M2)) (t : Int) A2 c2 ys
  mg : MG Try.prog 9 w M2 n2 m2 f2
  fm : Fm f2 ys
  pr : ys.map proj = xs.map proj
  ne : M2 ≠ a2 ∧ blockOf A2 ≠ some M2 ∧ ∀ y ∈ ys, y.blk ≠ M2
  lo : w0.heap.size ≤ a2 ∧ w0.heap.size ≤ M2 ∧ ∀ k, foot A2 ys k → w0.heap.size ≤ k
  nn : n2 ≤ ys.length
  st : Step (fun _ => False) w0 w
theorem CX.done {w0 w : World} {a2 M2 : Nat} {A2 : Option Addr} {c2 n2 m2 : Nat} {f2 : Lit → Option Value} {t : Nat} {xs ys : List It} {a : Nat} {A : Option Addr} {c M m n : Nat} {f : Lit → Option Value} {L : List (Ev ByteArray)}
    (h : CX w0 w a2 M2 A2 c2 n2 m2 f2 t xs ys) (hx : AgX w0 a A c M m n f xs t) (hp : (xs.map proj).Perm L) (h1 : Sorted L) (h2 : ∀ s ∈ L, s.turn ≤ (t : Int)) :
    ∃ F', AgR w a2 F' L t ∧ ∀ k, F' k → w0.heap.size ≤ k := by
  have hl : ys.length = xs.length := by have := congrArg List.length h.pr; simpa using this
  have hxl := hx.lt
  have hg : ∀ k, k < xs.length → (lg ys k).tm = (lg xs k).tm ∧ (lg ys k).turn = (lg xs k).turn := fun k hk => by
    have e := congrArg (fun l => l[k]?) h.pr
    simp only [List.getElem?_map] at e
    rw [get_lg hk, get_lg (show k < ys.length by omega)] at e
    simp only [Option.map_some, Option.some.injEq] at e
    unfold proj at e
    injection e with e1 e2 e3
    exact ⟨e2, e3⟩
  have hkk : ∀ y ∈ ys, KOk y.key := fun y hy => by
    have : proj y ∈ xs.map proj := by rw [← h.pr]; exact List.mem_map_of_mem hy
    obtain ⟨x, hx1, hx2⟩ := List.mem_map.1 this
    unfold proj at hx2
    injection hx2 with e1 e2 e3
    rw [← e1]
    exact hx.kok x hx1
  have hlt : ∀ k, (k = a2 ∨ k = M2 ∨ foot A2 ys k) → k < w.heap.size := fun k hk => by
    rcases hk with rfl | rfl | hk
    · exact h.hm.blk.lt
    · exact h.mg.lt
    · rcases hk with hk | ⟨y, hy, rfl⟩
      · exact h.hm.row.lt hk
      · obtain ⟨i, hi⟩ := List.getElem?_of_mem hy
        exact (h.hm.itm i y hi).lt
  refine ⟨fun k => k = a2 ∨ k = M2 ∨ foot A2 ys k, ⟨h1, h2, hlt, ys, A2, c2, M2, m2, n2, f2, ⟨h.hm, fun k k0 k1 => ?_, h.mg, h.fm, h.ne, hkk, by have := h.nn; omega, by omega⟩, by rw [h.pr]; exact hp, fun k hk => hk⟩, fun k hk => ?_⟩
  · have k2 : par k < xs.length := by have := par_lt k0; omega
    have e1 := hg k (by omega)
    have e2 := hg _ k2
    have := hx.hp k k0 (by omega)
    rw [le_iff] at this ⊢
    rw [e1.1, e1.2, e2.1, e2.2]
    exact this
  · rcases hk with rfl | rfl | hk
    · exact h.lo.1
    · exact h.lo.2.1
    · exact h.lo.2.2 k hk

theorem CX.start {w0 w1 : World} {a2 : Nat} {F2 : Nat → Prop} (h : AgR w1 a2 F2 [] 0) (hs1 : Step (fun _ => False) w0 w1) (hF : ∀ k, F2 k → w0.heap.size ≤ k) (t : Nat) :
    ∃ M2 A2 c2 m2 f2, Blk w1 a2 114 [.slice A2 0 c2, .map (some M2), .int .i64 0] ∧ ∀ w2, Blk w2 a2 114 [.slice A2 0 c2, .map (some M2), .int .i64 (t : Int)] → Step (· = a2) w1 w2 → CX w0 w2 a2 M2 A2 c2 0 m2 f2 t [] [] := by
  obtain ⟨_, _, h3, xs, A, c, M, m, n, f, hx, hp, hFk⟩ := h
  obtain rfl := empty hp
  have hn : n = 0 := by have := hx.nt; omega
  subst hn
  refine ⟨M, A, c, m, f, hx.hm.blk, fun w2 hb hs => ⟨hx.hm.turned hs hb, hx.mg.keep hs hx.ne.1, hx.fm, rfl, hx.ne, ⟨hF _ (hFk _ (.inl rfl)), hF _ (hFk _ (.inr (.inl rfl))), fun k hk => hF _ (hFk _ (.inr (.inr hk)))⟩, Nat.zero_le _, hs1.trans hs (fun j hj e => by have := hF _ (hFk _ (.inl rfl)); omega)⟩⟩
/-- One item more in the clone. -/
theorem CX.next {w0 w w3 : World} {a2 M2 : Nat} {A2 A3 : Option Addr} {c2 c3 n2 m2 m3 : Nat} {f2 : Lit → Option Value} {t : Nat} {xs ys : List It} (h : CX w0 w a2 M2 A2 c2 n2 m2 f2 t xs ys) {x : It} {b : Nat} (hn : ∀ y ∈ xs, y.key ≠ x.key)
    (hb : w.heap.size ≤ b) (hst : Step (fun k => k = a2 ∨ k = M2 ∨ blockOf A2 = some k) w w3) (hB : Blk w3 b 117 (icells x ys.length)) (ha : Blk w3 a2 114 [.slice A3 (ys.length + 1) c3, .map (some M2), .int .i64 (t : Int)])
    (hr : FSeg w3 118 1 A3 (ys.length + 1) c3 (ys.map ptr ++ [.pointer (some ⟨b, 0, none⟩)])) (hA3 : blockOf A3 = blockOf A2 ∨ ∃ k, blockOf A3 = some k ∧ w.heap.size ≤ k ∧ k ≠ b)
    (hm : MG Try.prog 9 w3 M2 (n2 + 1) m3 (putF f2 (slit x.key) (.pointer (some ⟨b, 0, none⟩)))) : CX w0 w3 a2 M2 A3 c3 (n2 + 1) m3 (putF f2 (slit x.key) (.pointer (some ⟨b, 0, none⟩))) t (xs ++ [x]) (ys ++ [⟨x.key, x.tm, x.turn, b⟩]) := by
  have hz := h.st.size
  have hal := h.hm.blk.lt
  have hml := h.mg.lt
  have hyl : ∀ y ∈ ys, y.blk < w.heap.size := fun y hy => by
    obtain ⟨i, hi⟩ := List.getElem?_of_mem hy
    exact (h.hm.itm i y hi).lt
  have hyk : ∀ y ∈ ys, y.key ≠ x.key := fun y hy e => by
    have : proj y ∈ xs.map proj := by rw [← h.pr]; exact List.mem_map_of_mem hy
    obtain ⟨z, hz1, hz2⟩ := List.mem_map.1 this
    unfold proj at hz2
    injection hz2 with e1
    exact hn z hz1 (e1.trans e)
  have hA2l : ∀ k, blockOf A2 = some k → k < w.heap.size := fun k hk => h.hm.row.lt hk
  have hAy : ∀ y ∈ ys, blockOf A3 ≠ some y.blk := fun y hy e => by
    rcases hA3 with e1 | ⟨k, e1, e2, _⟩
    · exact (h.hm.na y hy).2 (e1 ▸ e)
    · rw [e1] at e
      have := Option.some.inj e
      have := hyl y hy
      omega
  have hlen : (ys ++ [(⟨x.key, x.tm, x.turn, b⟩ : It)]).length = ys.length + 1 := by simp
  refine ⟨⟨by rw [hlen]; exact ha, by rw [hlen, List.map_append]; exact hr, fun i y hi => ?_, ?_, fun y hy => ?_, fun e => ?_⟩, hm, h.fm.put (x := ⟨x.key, x.tm, x.turn, b⟩) hyk, by rw [List.map_append, List.map_append, h.pr]; rfl, ⟨h.ne.1, fun e => ?_, fun y hy => ?_⟩, ⟨h.lo.1, h.lo.2.1, fun k hk => ?_⟩, by rw [hlen]; have := h.nn; omega, h.st.trans hst (fun j hj e => ?_)⟩
  · rcases Nat.lt_or_ge i ys.length with hil | hil
    · rw [List.getElem?_append_left hil] at hi
      have hym := List.mem_of_getElem? hi
      exact (h.hm.itm i y hi).keep hst (fun e => by
        rcases e with e | e | e
        · exact (h.hm.na y hym).1 e
        · exact h.ne.2.2 y hym e
        · exact (h.hm.na y hym).2 e)
    · have h1 := (List.getElem?_eq_some_iff.1 hi).1
      rw [hlen] at h1
      obtain rfl : i = ys.length := by omega
      rw [List.getElem?_append_right (Nat.le_refl _), Nat.sub_self] at hi
      obtain rfl : (⟨x.key, x.tm, x.turn, b⟩ : It) = y := by simpa using hi
      exact hB
  · rw [List.map_append, List.nodup_append]
    refine ⟨h.hm.nd, by simp, fun k hk j hj => ?_⟩
    obtain ⟨y, hy, rfl⟩ := List.mem_map.1 hk
    obtain rfl : j = b := by simpa using hj
    have := hyl y hy
    omega
  · rcases List.mem_append.1 hy with hy | hy
    · exact ⟨(h.hm.na y hy).1, hAy y hy⟩
    · obtain rfl : y = _ := by simpa using hy
      refine ⟨by show b ≠ a2; omega, fun e => ?_⟩
      rcases hA3 with e1 | ⟨k, e1, e2, e3⟩
      · rw [e1] at e
        have := hA2l _ e
        show False
        have : b < w.heap.size := this
        omega
      · rw [e1] at e
        exact e3 (Option.some.inj e)
  · rcases hA3 with e1 | ⟨k, e1, e2, _⟩
    · exact h.hm.nA (e1 ▸ e)
    · rw [e1] at e
      have := Option.some.inj e
      omega
  · rcases hA3 with e1 | ⟨k, e1, e2, _⟩
    · exact h.ne.2.1 (e1 ▸ e)
    · rw [e1] at e
      have := Option.some.inj e
      omega
  · rcases List.mem_append.1 hy with hy | hy
    · exact h.ne.2.2 y hy
    · obtain rfl : y = _ := by simpa using hy
      show b ≠ M2
      omega
  · rcases hk with hk | ⟨y, hy, rfl⟩
    · rcases hA3 with e1 | ⟨k', e1, e2, _⟩
      · exact h.lo.2.2 k (.inl (e1 ▸ hk))
      · rw [e1] at hk
        have := Option.some.inj hk
        omega
    · rcases List.mem_append.1 hy with hy | hy
      · exact h.lo.2.2 _ (.inr ⟨y, hy, rfl⟩)
      · obtain rfl : y = _ := by simpa using hy
        show _ ≤ b
        omega
  · rcases e with e | e | e
    · have := h.lo.1; omega
    · have := h.lo.2.1; omega
    · have := h.lo.2.2 j (.inl e); omega

set_option maxRecDepth 100000 in
set_option maxHeartbeats 4000000 in
theorem clone_calls {w : World} {a : Nat} {F : Nat → Prop} {L : List (Ev ByteArray)} {t : Nat} (h : AgR w a F L t) (ht : t ≤ 90000) :
    Calls Try.prog 48 #[.pointer (some ⟨a, 0, none⟩)] w fun e w' => ∃ a' F', e = .returned (.pointer (some ⟨a', 0, none⟩)) ∧ AgR w' a' F' L t ∧ Step (fun _ => False) w w' ∧ ∀ k, F' k → w.heap.size ≤ k := by
  have hnd := h.nodup
  obtain ⟨h1, h2, h3, xs, A, c, M, m, n, f, hx, hp, hFk⟩ := h
  have hxl := hx.lt
  have HX := Lib.hid hx
  have HN := Lib.hid (fun w1 => new_calls w1)
  have HK := Lib.hid (fun (y : It) (hy : y ∈ xs) => hx.kok y hy)
  have hkx : (xs.map (·.key)).Nodup := by
    have e : (xs.map proj).map (·.key) = xs.map (·.key) := by rw [List.map_map]; rfl
    rw [← e]
    exact ((hp.map (·.key)).nodup_iff).2 hnd
  have HKX := Lib.hid hkx
  have HP := Lib.hid hp
  clear hx hp hnd hkx
  go_enter Try.func48, Try.ntmps48
  go_upto_region 2 with (go_at_call 27; refine (HN.out _).mono ?_; rintro e1 w1 ⟨a2, F2, rfl, hA2, hs1, hF2⟩)
  obtain ⟨M2, A2, c2, m2, f2, hB2, HST⟩ := CX.start hA2 hs1 hF2 t
  have hbk := HX.out.hm.blk.keep hs1 (fun h => h)
  have d2 := hbk.cell (i := 2) rfl
  have e2 := hB2.cell (i := 2) rfl
  have g2 := hB2.free 2
  have HHST := Lib.hid HST
  have hne : a ≠ a2 := by have := hA2.own; have := hF2 _ this; have := HX.out.hm.blk.lt; omega
  clear HST hA2
  go_upto_region 3 with (fail)
  refine put_plain hB2 ?_
  intro w2 hB3 hs2
  have hC0 := HHST.out w2 hB3 hs2
  have hst2 := hC0.st
  have d0 := (hbk.keep hs2 hne).cell (i := 0) rfl
  have HC0 := Lib.hid hC0
  clear d2 e2 g2 hB2 hB3 hs2 hbk hs1 hC0 hst2 hF2 HHST HN
  obtain ⟨nx, hnx⟩ : ∃ nx, xs.length = nx := ⟨_, rfl⟩
  rw [hnx] at d0 hxl
  have HNX := Lib.hid hnx
  clear hnx
  go_wp2
  go_loopw [20] (fun v20 wr => ∃ (i : Nat) (ys : List It) (A2 : Option Addr) (c2 n2 m2 : Nat) (f2 : Lit → Option Value), v20 = .int .i64 (i : Int) ∧ i ≤ nx ∧ ys.length = i ∧ CX w wr a2 M2 A2 c2 n2 m2 f2 t (xs.take i) ys) (fun v _ => nx - (intOf v).toNat)
  case atStart => exact ⟨0, [], A2, c2, 0, m2, f2, rfl, Nat.zero_le _, rfl, HC0.out⟩
  case round =>
    clear HC0 A2 c2 m2 f2 d0
    obtain ⟨i, ys, A2, c2, n2, m2, f2, rfl, hi, hyl, hC⟩ := hrel
    by_cases hin : i < nx
    · have hin' : ((i : Int) < (nx : Int)) := by omega
      have hil : i < xs.length := by rw [HNX.out]; exact hin
      obtain ⟨g, rfl, hci, hbi⟩ := (HX.out.hm.same hC.st).pick hil
      have hxe : xs[i]? = some (lg xs i) := get_lg hil
      have htk : xs.take (i + 1) = xs.take i ++ [lg xs i] := by rw [List.take_add_one, hxe]; rfl
      have hdis : ∀ y ∈ xs.take i, y.key ≠ (lg xs i).key := fun y hy e => by
        have hk := HKX.out
        have e1 : xs = xs.take i ++ (lg xs i :: xs.drop (i + 1)) := by rw [lg_get hil, ← List.drop_eq_getElem_cons hil, List.take_append_drop]
        rw [e1, List.map_append, List.nodup_append] at hk
        exact hk.2.2 _ (List.mem_map_of_mem hy) _ (List.mem_map_of_mem (List.mem_cons_self ..)) e
      have hkk := HK.out _ (List.mem_of_getElem? hxe)
      have HTK := Lib.hid htk
      have HDIS := Lib.hid hdis
      clear hxe htk hdis
      generalize lg xs i = x at *
      obtain ⟨xk, xt, xn, xb⟩ := x
      simp only at hci hbi hkk
      have b0 := hbi.cell (i := 0) rfl
      have b1 := hbi.cell (i := 1) rfl
      have b2 := hbi.cell (i := 2) rfl
      have b3 := hbi.cell (i := 3) rfl
      clear hbi
      go_upto_region 7 with (fail)
      refine alloc_next (cs := [Value.string xk, .int .i64 xt, .int .i64 xn, .int .i64 (i : Int)]) ?_
      intro w3 hO hs3
      obtain ⟨ob, hob⟩ : ∃ ob, wr.heap.size = ob := ⟨_, rfl⟩
      rw [hob] at hO ⊢
      have HOB := Lib.hid hob
      clear hob b0 b1 b2 b3
      have hha := hC.hm.blk.keep hs3 (fun h => h)
      have p0 := hha.cell (i := 0) rfl
      have q0 := hha.free 0
      rw [hyl] at p0
      have hal : Step (fun _ => False) w3 (w3.alloc (.cells #[.pointer (some ⟨ob, 0, none⟩)] 118)) := (Step.refl _ _).alloc _
      have hrow : FSeg w3 118 1 A2 i c2 (ys.map ptr) := by have := hC.hm.row.keep hs3 (fun _ _ h => h); rw [hyl] at this; exact this
      obtain ⟨A4, c4, w4, hap, hr4, hs4, hn4⟩ := app_ptr (v := .pointer (some ⟨ob, 0, none⟩)) (hrow.keep hal (fun _ _ h => h)) rfl (blk_new w3 [.pointer (some ⟨ob, 0, none⟩)] 118) (by omega)
      have hs34 : Step (fun k => blockOf A2 = some k) w3 w4 := (hal.mono (fun _ _ h => h.elim)).same hs4
      have hha4 := (hha.keep hal (fun h => h)).keep hs4 hC.hm.nA
      have q4 := hha4.free 0
      have p4 := hha4.cell (i := 0) rfl
      have hO4 := (hO.keep hal (fun h => h)).keep hs4 (fun h => by have := hC.hm.row.lt h; have := HOB.out; omega)
      have HC := Lib.hid hC
      have HR4 := Lib.hid hr4
      have HS34 := Lib.hid hs34
      have HN4 := Lib.hid hn4
      have HS3 := Lib.hid hs3
      have hza := hal.size
      have hz3 := hs3.size
      have hz4 := hs34.size
      have hol : ob < w3.heap.size := hO.lt
      have hM4 := ((hC.mg.keep hs3 (fun h => h)).keep hal (fun h => h)).keep hs4 hC.ne.2.1
      have HM4 := Lib.hid hM4
      clear hr4 hs34 hn4 hs4 hal hrow hM4
      go_upto_region 8 with (at_builtin; refine wpList_app1 (by rfl) (.tmp 31) (.tmp 32) 112 (by rfl) (by rfl) (by rfl) hap ?_)
      refine put_plain hha4 ?_
      intro w5 hB5 hs5
      have hO5 := hO4.keep hs5 (fun e => by have := HC.out.hm.blk.lt; have := HOB.out; omega)
      have hM5 := HM4.out.keep hs5 HC.out.ne.1
      have r5 := HR4.out.keep hs5 (fun k hk e => by
        rcases HN4.out with e1 | ⟨j, e1, e2⟩
        · exact HC.out.hm.nA (by rw [← e1, hk, e])
        · rw [e1] at hk
          have := Option.some.inj hk
          have := HC.out.hm.blk.lt
          have := HOB.out
          omega)
      have d1 := hB5.cell (i := 1) rfl
      have k0 := hO5.cell (i := 0) rfl
      have HB5 := Lib.hid hB5
      have HO5 := Lib.hid hO5
      have HM5 := Lib.hid hM5
      have HR5 := Lib.hid r5
      clear p0 q0 p4 q4 hha hha4 hO hO4 hB5 hO5 hM5 r5 HM4 HR4 hC
      go_still_tail 6, (by kernel_rfl)
      have hdr : Step (fun _ => False) w5 w5.drew := (Step.refl _ _).drew
      have hn2 : n2 ≤ 100000 := by have := HC.out.nn; omega
      have hMd := HM5.out.keep hdr (fun h => h)
      go_upto_region 9 with (refine wpList_mg_put rfl (.tmp 39) (.tmp 41) (.tmp 6) 110 rfl hMd kkeyed Try.underlying110 (by omega) (val := .pointer (some ⟨ob, 0, none⟩)) (slit_ok xk) (kkey hkk) rfl rfl rfl ?_; intro w6 hM6 hs6)
      have hM2l := HC.out.mg.lt
      have hob := HOB.out
      have hCn := HC.out.next (w3 := w6) (x := ⟨xk, xt, xn, xb⟩) (b := ob) (A3 := A4) (c3 := c4) HDIS.out (by omega) ((((HS3.out.mono (G := fun k => k = a2 ∨ k = M2 ∨ blockOf A2 = some k) (fun _ _ h => h.elim)).same (HS34.out.mono (fun _ _ h => .inr (.inr h)))).same (hs5.mono (fun _ _ h => .inl h))).same ((hdr.mono (fun _ _ h => h.elim)).same (hs6.mono (fun _ _ h => .inr (.inl h))))) (by
        rw [hyl]
        exact (HO5.out.keep hdr (fun h => h)).keep hs6 (fun e => by omega)) (by
        rw [hyl]
        exact (HB5.out.keep hdr (fun h => h)).keep hs6 (fun e => HC.out.ne.1 e.symm)) (by
        rw [hyl]
        exact (HR5.out.keep hdr (fun _ _ h => h)).keep hs6 (fun k hk e => by
          rcases HN4.out with e1 | ⟨j, e1, e2⟩
          · exact HC.out.ne.2.1 (by rw [← e1, hk, e])
          · rw [e1] at hk
            have := Option.some.inj hk
            omega)) (HN4.out.imp id (fun ⟨k, e1, e2⟩ => ⟨k, e1, by omega, by omega⟩)) hM6
      have HCN := Lib.hid hCn
      clear hCn hM6 hs6 hMd hdr hs5 HB5 HO5 HM5 HR5 HN4 HS34 HS3 hap hci
      go_wp2
      go_roundw
      case rel => exact ⟨i + 1, ys ++ [⟨xk, xt, xn, ob⟩], A4, c4, n2 + 1, _, _, by go_num, by omega, by rw [List.length_append, hyl]; rfl, by rw [HTK.out]; exact HCN.out⟩
      case measure => simp [intOf]; omega
    · obtain rfl : i = nx := by omega
      have hin' : ¬ ((i : Int) < (i : Int)) := by omega
      rw [List.take_of_length_le (by rw [HNX.out]; exact Nat.le_refl _)] at hC
      obtain ⟨F', hA', hF'⟩ := hC.done HX.out HP.out h1 h2
      have HST := Lib.hid hC.st
      have HA' := Lib.hid hA'
      clear hC hA' h1 h2
      go_wp2
      go_ret
      first | exact ⟨a2, F', rfl, HA'.out, HST.out, hF'⟩ | exact ⟨a2, rfl, F', HA'.out, HST.out, hF'⟩ | exact ⟨a2, rfl, ⟨F', HA'.out, hF'⟩, HST.out⟩
end Go.Proofs.Ytghiklaeenhljaa.AgStr
