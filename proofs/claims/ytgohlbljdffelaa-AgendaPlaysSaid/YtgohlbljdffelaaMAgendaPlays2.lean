/- Lemmas and walks of the texts AgKStr, AgVStr, SortL, AgWStr, AgAtStr, AgLenStr, Cut, AgDo, AgIs, AgAInt, AgBInt, AgCInt, AgMInt, AgDInt, AgEInt, AgFInt, AgGInt, AgHInt, AgIInt, AgSInt, AgTInt, AgLenInt, OrdA, Base, Act20, WalkAgendaPlays, one behind the other: no condition. Own work of this seat. -/
import Derived.Test.YtgohlbljdffelaaMAgendaPlays1
import Derived.RangeFuncBox
import Derived.RangeFuncLeaves
import Derived.Shelf.Abstract
import Derived.WalkKit
import Derived.OwnWalkIn
import Derived.TacticsInMore
import Derived.LoopNIn
import Derived.LoopIn
import Derived.Maps.AppendAt
import Derived.Shelf.SlGeneric
import Derived.Shelf.SlSortCmp.NoneTotal
import Derived.Ground.SlsfProg
import Derived.Test.YtgohlbljdffelaaProg
import Derived.Deep.QuietTactic
import Derived.BigQuiet
import Derived.Test.YtgohlbljdffelaaWWords
import Derived.ChangeArms
import Derived.Deep.Slices
import Derived.ChangeOld
import Derived.Carry
import Derived.SizedLaws
import Derived.DataReads
import Derived.OpenShut
/- agenda: Clone. Own work of this seat. -/
namespace Go.Proofs.Ytgohlbljdffelaa.AgStr
open Go.RowKit Go.Proofs.Ytgohlbljdffelaa.Kit Go.Proofs.Ytgohlbljdffelaa.AgP Go.Proofs.Ytgohlbljdffelaa.HeapP Go.Proofs.Ytgohlbljdffelaa
set_option linter.unusedVariables false
set_option linter.unusedSimpArgs false

theorem i0ptr : ∃ i, Try.prog.info? 102 = some i ∧ i.zero = some (.pointer none) ∧ i.size = 1 ∧ i.bytes = 8 := by
  obtain ⟨i, hi, hp⟩ := Option.map_eq_some_iff.1 (by kernel_rfl : (Try.prog.info? 102).map (fun i => (i.zero, i.size, i.bytes)) = some (some (.pointer none), 1, 8))
  simp only [Prod.mk.injEq] at hp
  exact ⟨i, hi, hp⟩
theorem app_ptr {w : World} {A : Option Addr} {n c b : Nat} {l : List Value} {v : Value} (h : FSeg w 102 1 A n c l) (hv : v.oneCell' = true) (hB : Blk w b 102 [v]) (hb : n + 1 ≤ 1000000) :
    ∃ A' c' w', (Builtin.append_ #[90, 90] 90 #[.slice A n c, .slice (some ⟨b, 0, none⟩) 1 1]).run Try.prog w = .ok (.slice A' (n + 1) c') w' ∧ FSeg w' 102 1 A' (n + 1) c' (l ++ [v]) ∧ Step (fun k => blockOf A = some k) w w' ∧ (blockOf A' = blockOf A ∨ ∃ k, blockOf A' = some k ∧ w.heap.size ≤ k) := by
  obtain ⟨i0, hi0, hz0, hs0, hy0⟩ := i0ptr
  exact run_app_one 90 102 Try.underlying90 hi0 hz0 rfl hs0 hy0 (by omega) h rfl (fun x hx => by
    obtain rfl : x = v := by simpa using hx
    exact hv) hB hb

/-- The clone so far: its items are those of xs one by one, in blocks of its own. -/
structure CX (w0 w : World) (a2 M2 : Nat) (A2 : Option Addr) (c2 n2 m2 : Nat) (f2 : Lit → Option Value) (t : Nat) (xs ys : List It) : Prop where
  hm : HM w a2 (.map (some M2)) (t : Int) A2 c2 ys
  mg : MG Try.prog 9 w M2 n2 m2 f2
  fm : Fm f2 ys
  pr : ys.map proj = xs.map proj
  ne : M2 ≠ a2 ∧ blockOf A2 ≠ some M2 ∧ ∀ y ∈ ys, y.blk ≠ M2
  lo : w0.heap.size ≤ a2 ∧ w0.heap.size ≤ M2 ∧ ∀ k, foot A2 ys k → w0.heap.size ≤ k
  nn : n2 ≤ ys.length
  st : Step (fun _ => False) w0 w
theorem CX.done {w0 w : World} {a2 M2 : Nat} {A2 : Option Addr} {c2 n2 m2 : Nat} {f2 : Lit → Option Value} {t : Nat} {xs ys : List It} {a : Nat} {A : Option Addr} {c M m n : Nat} {f : Lit → Option Value} {L : List (Ev ByteArray)}
    (h : CX w0 w a2 M2 A2 c2 n2 m2 f2 t xs ys) (hx : AgX w0 a A c M m n f xs t) (hp : (xs.map proj).Perm L) (h1 : Sorted L) (h2 : ∀ s ∈ L, s.turn ≤ (t : Int)) :
    ∃ F', AgR w a2 F' L t ∧ ∀ k, F' k → w0.heap.size ≤ k := by
  have hl : ys.length = xs.length := by have := congrArg List.length h.pr; simpa using this
  have hxl := hx.lt
  have hg : ∀ k, k < xs.length → (lg ys k).tm = (lg xs k).tm ∧ (lg ys k).turn = (lg xs k).turn := fun k hk => by
    have e := congrArg (fun l => l[k]?) h.pr
    simp only [List.getElem?_map] at e
    rw [get_lg hk, get_lg (show k < ys.length by omega)] at e
    simp only [Option.map_some, Option.some.injEq] at e
    unfold proj at e
    injection e with e1 e2 e3
    exact ⟨e2, e3⟩
  have hkk : ∀ y ∈ ys, KOk y.key := fun y hy => by
    have : proj y ∈ xs.map proj := by rw [← h.pr]; exact List.mem_map_of_mem hy
    obtain ⟨x, hx1, hx2⟩ := List.mem_map.1 this
    unfold proj at hx2
    injection hx2 with e1 e2 e3
    rw [← e1]
    exact hx.kok x hx1
  have hlt : ∀ k, (k = a2 ∨ k = M2 ∨ foot A2 ys k) → k < w.heap.size := fun k hk => by
    rcases hk with rfl | rfl | hk
    · exact h.hm.blk.lt
    · exact h.mg.lt
    · rcases hk with hk | ⟨y, hy, rfl⟩
      · exact h.hm.row.lt hk
      · obtain ⟨i, hi⟩ := List.getElem?_of_mem hy
        exact (h.hm.itm i y hi).lt
  refine ⟨fun k => k = a2 ∨ k = M2 ∨ foot A2 ys k, ⟨h1, h2, hlt, ys, A2, c2, M2, m2, n2, f2, ⟨h.hm, fun k k0 k1 => ?_, h.mg, h.fm, h.ne, hkk, by have := h.nn; omega, by omega⟩, by rw [h.pr]; exact hp, fun k hk => hk⟩, fun k hk => ?_⟩
  · have k2 : par k < xs.length := by have := par_lt k0; omega
    have e1 := hg k (by omega)
    have e2 := hg _ k2
    have := hx.hp k k0 (by omega)
    rw [le_iff] at this ⊢
    rw [e1.1, e1.2, e2.1, e2.2]
    exact this
  · rcases hk with rfl | rfl | hk
    · exact h.lo.1
    · exact h.lo.2.1
    · exact h.lo.2.2 k hk

theorem CX.start {w0 w1 : World} {a2 : Nat} {F2 : Nat → Prop} (h : AgR w1 a2 F2 [] 0) (hs1 : Step (fun _ => False) w0 w1) (hF : ∀ k, F2 k → w0.heap.size ≤ k) (t : Nat) :
    ∃ M2 A2 c2 m2 f2, Blk w1 a2 92 [.slice A2 0 c2, .map (some M2), .int .i64 0] ∧ ∀ w2, Blk w2 a2 92 [.slice A2 0 c2, .map (some M2), .int .i64 (t : Int)] → Step (· = a2) w1 w2 → CX w0 w2 a2 M2 A2 c2 0 m2 f2 t [] [] := by
  obtain ⟨_, _, h3, xs, A, c, M, m, n, f, hx, hp, hFk⟩ := h
  obtain rfl := empty hp
  have hn : n = 0 := by have := hx.nt; omega
  subst hn
  refine ⟨M, A, c, m, f, hx.hm.blk, fun w2 hb hs => ⟨hx.hm.turned hs hb, hx.mg.keep hs hx.ne.1, hx.fm, rfl, hx.ne, ⟨hF _ (hFk _ (.inl rfl)), hF _ (hFk _ (.inr (.inl rfl))), fun k hk => hF _ (hFk _ (.inr (.inr hk)))⟩, Nat.zero_le _, hs1.trans hs (fun j hj e => by have := hF _ (hFk _ (.inl rfl)); omega)⟩⟩
/-- One item more in the clone. -/
theorem CX.next {w0 w w3 : World} {a2 M2 : Nat} {A2 A3 : Option Addr} {c2 c3 n2 m2 m3 : Nat} {f2 : Lit → Option Value} {t : Nat} {xs ys : List It} (h : CX w0 w a2 M2 A2 c2 n2 m2 f2 t xs ys) {x : It} {b : Nat} (hn : ∀ y ∈ xs, y.key ≠ x.key)
    (hb : w.heap.size ≤ b) (hst : Step (fun k => k = a2 ∨ k = M2 ∨ blockOf A2 = some k) w w3) (hB : Blk w3 b 104 (icells x ys.length)) (ha : Blk w3 a2 92 [.slice A3 (ys.length + 1) c3, .map (some M2), .int .i64 (t : Int)])
    (hr : FSeg w3 102 1 A3 (ys.length + 1) c3 (ys.map ptr ++ [.pointer (some ⟨b, 0, none⟩)])) (hA3 : blockOf A3 = blockOf A2 ∨ ∃ k, blockOf A3 = some k ∧ w.heap.size ≤ k ∧ k ≠ b)
    (hm : MG Try.prog 9 w3 M2 (n2 + 1) m3 (putF f2 (slit x.key) (.pointer (some ⟨b, 0, none⟩)))) : CX w0 w3 a2 M2 A3 c3 (n2 + 1) m3 (putF f2 (slit x.key) (.pointer (some ⟨b, 0, none⟩))) t (xs ++ [x]) (ys ++ [⟨x.key, x.tm, x.turn, b⟩]) := by
  have hz := h.st.size
  have hal := h.hm.blk.lt
  have hml := h.mg.lt
  have hyl : ∀ y ∈ ys, y.blk < w.heap.size := fun y hy => by
    obtain ⟨i, hi⟩ := List.getElem?_of_mem hy
    exact (h.hm.itm i y hi).lt
  have hyk : ∀ y ∈ ys, y.key ≠ x.key := fun y hy e => by
    have : proj y ∈ xs.map proj := by rw [← h.pr]; exact List.mem_map_of_mem hy
    obtain ⟨z, hz1, hz2⟩ := List.mem_map.1 this
    unfold proj at hz2
    injection hz2 with e1
    exact hn z hz1 (e1.trans e)
  have hA2l : ∀ k, blockOf A2 = some k → k < w.heap.size := fun k hk => h.hm.row.lt hk
  have hAy : ∀ y ∈ ys, blockOf A3 ≠ some y.blk := fun y hy e => by
    rcases hA3 with e1 | ⟨k, e1, e2, _⟩
    · exact (h.hm.na y hy).2 (e1 ▸ e)
    · rw [e1] at e
      have := Option.some.inj e
      have := hyl y hy
      omega
  have hlen : (ys ++ [(⟨x.key, x.tm, x.turn, b⟩ : It)]).length = ys.length + 1 := by simp
  refine ⟨⟨by rw [hlen]; exact ha, by rw [hlen, List.map_append]; exact hr, fun i y hi => ?_, ?_, fun y hy => ?_, fun e => ?_⟩, hm, h.fm.put (x := ⟨x.key, x.tm, x.turn, b⟩) hyk, by rw [List.map_append, List.map_append, h.pr]; rfl, ⟨h.ne.1, fun e => ?_, fun y hy => ?_⟩, ⟨h.lo.1, h.lo.2.1, fun k hk => ?_⟩, by rw [hlen]; have := h.nn; omega, h.st.trans hst (fun j hj e => ?_)⟩
  · rcases Nat.lt_or_ge i ys.length with hil | hil
    · rw [List.getElem?_append_left hil] at hi
      have hym := List.mem_of_getElem? hi
      exact (h.hm.itm i y hi).keep hst (fun e => by
        rcases e with e | e | e
        · exact (h.hm.na y hym).1 e
        · exact h.ne.2.2 y hym e
        · exact (h.hm.na y hym).2 e)
    · have h1 := (List.getElem?_eq_some_iff.1 hi).1
      rw [hlen] at h1
      obtain rfl : i = ys.length := by omega
      rw [List.getElem?_append_right (Nat.le_refl _), Nat.sub_self] at hi
      obtain rfl : (⟨x.key, x.tm, x.turn, b⟩ : It) = y := by simpa using hi
      exact hB
  · rw [List.map_append, List.nodup_append]
    refine ⟨h.hm.nd, by simp, fun k hk j hj => ?_⟩
    obtain ⟨y, hy, rfl⟩ := List.mem_map.1 hk
    obtain rfl : j = b := by simpa using hj
    have := hyl y hy
    omega
  · rcases List.mem_append.1 hy with hy | hy
    · exact ⟨(h.hm.na y hy).1, hAy y hy⟩
    · obtain rfl : y = _ := by simpa using hy
      refine ⟨by show b ≠ a2; omega, fun e => ?_⟩
      rcases hA3 with e1 | ⟨k, e1, e2, e3⟩
      · rw [e1] at e
        have := hA2l _ e
        show False
        have : b < w.heap.size := this
        omega
      · rw [e1] at e
        exact e3 (Option.some.inj e)
  · rcases hA3 with e1 | ⟨k, e1, e2, _⟩
    · exact h.hm.nA (e1 ▸ e)
    · rw [e1] at e
      have := Option.some.inj e
      omega
  · rcases hA3 with e1 | ⟨k, e1, e2, _⟩
    · exact h.ne.2.1 (e1 ▸ e)
    · rw [e1] at e
      have := Option.some.inj e
      omega
  · rcases List.mem_append.1 hy with hy | hy
    · exact h.ne.2.2 y hy
    · obtain rfl : y = _ := by simpa using hy
      show b ≠ M2
      omega
  · rcases hk with hk | ⟨y, hy, rfl⟩
    · rcases hA3 with e1 | ⟨k', e1, e2, _⟩
      · exact h.lo.2.2 k (.inl (e1 ▸ hk))
      · rw [e1] at hk
        have := Option.some.inj hk
        omega
    · rcases List.mem_append.1 hy with hy | hy
      · exact h.lo.2.2 _ (.inr ⟨y, hy, rfl⟩)
      · obtain rfl : y = _ := by simpa using hy
        show _ ≤ b
        omega
  · rcases e with e | e | e
    · have := h.lo.1; omega
    · have := h.lo.2.1; omega
    · have := h.lo.2.2 j (.inl e); omega

set_option maxRecDepth 100000 in
set_option maxHeartbeats 4000000 in
theorem clone_calls {w : World} {a : Nat} {F : Nat → Prop} {L : List (Ev ByteArray)} {t : Nat} (h : AgR w a F L t) (ht : t ≤ 90000) :
    Calls Try.prog 24 #[.pointer (some ⟨a, 0, none⟩)] w fun e w' => ∃ a' F', e = .returned (.pointer (some ⟨a', 0, none⟩)) ∧ AgR w' a' F' L t ∧ Step (fun _ => False) w w' ∧ ∀ k, F' k → w.heap.size ≤ k := by
  have hnd := h.nodup
  obtain ⟨h1, h2, h3, xs, A, c, M, m, n, f, hx, hp, hFk⟩ := h
  have hxl := hx.lt
  have HX := Lib.hid hx
  have HN := Lib.hid (fun w1 => new_calls w1)
  have HK := Lib.hid (fun (y : It) (hy : y ∈ xs) => hx.kok y hy)
  have hkx : (xs.map (·.key)).Nodup := by
    have e : (xs.map proj).map (·.key) = xs.map (·.key) := by rw [List.map_map]; rfl
    rw [← e]
    exact ((hp.map (·.key)).nodup_iff).2 hnd
  have HKX := Lib.hid hkx
  have HP := Lib.hid hp
  clear hx hp hnd hkx
  go_enter Try.func24, Try.ntmps24
  go_upto_region 2 with (go_at_call 21; refine (HN.out _).mono ?_; rintro e1 w1 ⟨a2, F2, rfl, hA2, hs1, hF2⟩)
  obtain ⟨M2, A2, c2, m2, f2, hB2, HST⟩ := CX.start hA2 hs1 hF2 t
  have hbk := HX.out.hm.blk.keep hs1 (fun h => h)
  have d2 := hbk.cell (i := 2) rfl
  have e2 := hB2.cell (i := 2) rfl
  have g2 := hB2.free 2
  have HHST := Lib.hid HST
  have hne : a ≠ a2 := by have := hA2.own; have := hF2 _ this; have := HX.out.hm.blk.lt; omega
  clear HST hA2
  go_upto_region 3 with (fail)
  refine put_plain hB2 ?_
  intro w2 hB3 hs2
  have hC0 := HHST.out w2 hB3 hs2
  have hst2 := hC0.st
  have d0 := (hbk.keep hs2 hne).cell (i := 0) rfl
  have HC0 := Lib.hid hC0
  clear d2 e2 g2 hB2 hB3 hs2 hbk hs1 hC0 hst2 hF2 HHST HN
  obtain ⟨nx, hnx⟩ : ∃ nx, xs.length = nx := ⟨_, rfl⟩
  rw [hnx] at d0 hxl
  have HNX := Lib.hid hnx
  clear hnx
  go_wp2
  go_loopw [20] (fun v20 wr => ∃ (i : Nat) (ys : List It) (A2 : Option Addr) (c2 n2 m2 : Nat) (f2 : Lit → Option Value), v20 = .int .i64 (i : Int) ∧ i ≤ nx ∧ ys.length = i ∧ CX w wr a2 M2 A2 c2 n2 m2 f2 t (xs.take i) ys) (fun v _ => nx - (intOf v).toNat)
  case atStart => exact ⟨0, [], A2, c2, 0, m2, f2, rfl, Nat.zero_le _, rfl, HC0.out⟩
  case round =>
    clear HC0 A2 c2 m2 f2 d0
    obtain ⟨i, ys, A2, c2, n2, m2, f2, rfl, hi, hyl, hC⟩ := hrel
    by_cases hin : i < nx
    · have hin' : ((i : Int) < (nx : Int)) := by omega
      have hil : i < xs.length := by rw [HNX.out]; exact hin
      obtain ⟨g, rfl, hci, hbi⟩ := (HX.out.hm.same hC.st).pick hil
      have hxe : xs[i]? = some (lg xs i) := get_lg hil
      have htk : xs.take (i + 1) = xs.take i ++ [lg xs i] := by rw [List.take_add_one, hxe]; rfl
      have hdis : ∀ y ∈ xs.take i, y.key ≠ (lg xs i).key := fun y hy e => by
        have hk := HKX.out
        have e1 : xs = xs.take i ++ (lg xs i :: xs.drop (i + 1)) := by rw [lg_get hil, ← List.drop_eq_getElem_cons hil, List.take_append_drop]
        rw [e1, List.map_append, List.nodup_append] at hk
        exact hk.2.2 _ (List.mem_map_of_mem hy) _ (List.mem_map_of_mem (List.mem_cons_self ..)) e
      have hkk := HK.out _ (List.mem_of_getElem? hxe)
      have HTK := Lib.hid htk
      have HDIS := Lib.hid hdis
      clear hxe htk hdis
      generalize lg xs i = x at *
      obtain ⟨xk, xt, xn, xb⟩ := x
      simp only at hci hbi hkk
      have b0 := hbi.cell (i := 0) rfl
      have b1 := hbi.cell (i := 1) rfl
      have b2 := hbi.cell (i := 2) rfl
      have b3 := hbi.cell (i := 3) rfl
      clear hbi
      go_upto_region 7 with (fail)
      refine alloc_next (cs := [Value.string xk, .int .i64 xt, .int .i64 xn, .int .i64 (i : Int)]) ?_
      intro w3 hO hs3
      obtain ⟨ob, hob⟩ : ∃ ob, wr.heap.size = ob := ⟨_, rfl⟩
      rw [hob] at hO ⊢
      have HOB := Lib.hid hob
      clear hob b0 b1 b2 b3
      have hha := hC.hm.blk.keep hs3 (fun h => h)
      have p0 := hha.cell (i := 0) rfl
      have q0 := hha.free 0
      rw [hyl] at p0
      have hal : Step (fun _ => False) w3 (w3.alloc (.cells #[.pointer (some ⟨ob, 0, none⟩)] 102)) := (Step.refl _ _).alloc _
      have hrow : FSeg w3 102 1 A2 i c2 (ys.map ptr) := by have := hC.hm.row.keep hs3 (fun _ _ h => h); rw [hyl] at this; exact this
      obtain ⟨A4, c4, w4, hap, hr4, hs4, hn4⟩ := app_ptr (v := .pointer (some ⟨ob, 0, none⟩)) (hrow.keep hal (fun _ _ h => h)) rfl (blk_new w3 [.pointer (some ⟨ob, 0, none⟩)] 102) (by omega)
      have hs34 : Step (fun k => blockOf A2 = some k) w3 w4 := (hal.mono (fun _ _ h => h.elim)).same hs4
      have hha4 := (hha.keep hal (fun h => h)).keep hs4 hC.hm.nA
      have q4 := hha4.free 0
      have p4 := hha4.cell (i := 0) rfl
      have hO4 := (hO.keep hal (fun h => h)).keep hs4 (fun h => by have := hC.hm.row.lt h; have := HOB.out; omega)
      have HC := Lib.hid hC
      have HR4 := Lib.hid hr4
      have HS34 := Lib.hid hs34
      have HN4 := Lib.hid hn4
      have HS3 := Lib.hid hs3
      have hza := hal.size
      have hz3 := hs3.size
      have hz4 := hs34.size
      have hol : ob < w3.heap.size := hO.lt
      have hM4 := ((hC.mg.keep hs3 (fun h => h)).keep hal (fun h => h)).keep hs4 hC.ne.2.1
      have HM4 := Lib.hid hM4
      clear hr4 hs34 hn4 hs4 hal hrow hM4
      go_upto_region 8 with (at_builtin; refine wpList_app1 (by rfl) (.tmp 31) (.tmp 32) 90 (by rfl) (by rfl) (by rfl) hap ?_)
      refine put_plain hha4 ?_
      intro w5 hB5 hs5
      have hO5 := hO4.keep hs5 (fun e => by have := HC.out.hm.blk.lt; have := HOB.out; omega)
      have hM5 := HM4.out.keep hs5 HC.out.ne.1
      have r5 := HR4.out.keep hs5 (fun k hk e => by
        rcases HN4.out with e1 | ⟨j, e1, e2⟩
        · exact HC.out.hm.nA (by rw [← e1, hk, e])
        · rw [e1] at hk
          have := Option.some.inj hk
          have := HC.out.hm.blk.lt
          have := HOB.out
          omega)
      have d1 := hB5.cell (i := 1) rfl
      have k0 := hO5.cell (i := 0) rfl
      have HB5 := Lib.hid hB5
      have HO5 := Lib.hid hO5
      have HM5 := Lib.hid hM5
      have HR5 := Lib.hid r5
      clear p0 q0 p4 q4 hha hha4 hO hO4 hB5 hO5 hM5 r5 HM4 HR4 hC
      go_still_tail 6, (by kernel_rfl)
      have hdr : Step (fun _ => False) w5 w5.drew := (Step.refl _ _).drew
      have hn2 : n2 ≤ 100000 := by have := HC.out.nn; omega
      have hMd := HM5.out.keep hdr (fun h => h)
      go_upto_region 9 with (refine wpList_mg_put rfl (.tmp 39) (.tmp 41) (.tmp 6) 88 rfl hMd kkeyed Try.underlying88 (by omega) (val := .pointer (some ⟨ob, 0, none⟩)) (slit_ok xk) (kkey hkk) rfl rfl rfl ?_; intro w6 hM6 hs6)
      have hM2l := HC.out.mg.lt
      have hob := HOB.out
      have hCn := HC.out.next (w3 := w6) (x := ⟨xk, xt, xn, xb⟩) (b := ob) (A3 := A4) (c3 := c4) HDIS.out (by omega) ((((HS3.out.mono (G := fun k => k = a2 ∨ k = M2 ∨ blockOf A2 = some k) (fun _ _ h => h.elim)).same (HS34.out.mono (fun _ _ h => .inr (.inr h)))).same (hs5.mono (fun _ _ h => .inl h))).same ((hdr.mono (fun _ _ h => h.elim)).same (hs6.mono (fun _ _ h => .inr (.inl h))))) (by
        rw [hyl]
        exact (HO5.out.keep hdr (fun h => h)).keep hs6 (fun e => by omega)) (by
        rw [hyl]
        exact (HB5.out.keep hdr (fun h => h)).keep hs6 (fun e => HC.out.ne.1 e.symm)) (by
        rw [hyl]
        exact (HR5.out.keep hdr (fun _ _ h => h)).keep hs6 (fun k hk e => by
          rcases HN4.out with e1 | ⟨j, e1, e2⟩
          · exact HC.out.ne.2.1 (by rw [← e1, hk, e])
          · rw [e1] at hk
            have := Option.some.inj hk
            omega)) (HN4.out.imp id (fun ⟨k, e1, e2⟩ => ⟨k, e1, by omega, by omega⟩)) hM6
      have HCN := Lib.hid hCn
      clear hCn hM6 hs6 hMd hdr hs5 HB5 HO5 HM5 HR5 HN4 HS34 HS3 hap hci
      go_wp2
      go_roundw
      case rel => exact ⟨i + 1, ys ++ [⟨xk, xt, xn, ob⟩], A4, c4, n2 + 1, _, _, by go_num, by omega, by rw [List.length_append, hyl]; rfl, by rw [HTK.out]; exact HCN.out⟩
      case measure => simp [intOf]; omega
    · obtain rfl : i = nx := by omega
      have hin' : ¬ ((i : Int) < (i : Int)) := by omega
      rw [List.take_of_length_le (by rw [HNX.out]; exact Nat.le_refl _)] at hC
      obtain ⟨F', hA', hF'⟩ := hC.done HX.out HP.out h1 h2
      have HST := Lib.hid hC.st
      have HA' := Lib.hid hA'
      clear hC hA' h1 h2
      go_wp2
      go_ret
      first | exact ⟨a2, F', rfl, HA'.out, HST.out, hF'⟩ | exact ⟨a2, rfl, F', HA'.out, HST.out, hF'⟩ | exact ⟨a2, rfl, ⟨F', HA'.out, hF'⟩, HST.out⟩
end Go.Proofs.Ytgohlbljdffelaa.AgStr

/- agenda: slices.Values over the pile, slices.AppendSeq and slices.Collect of it: a new row with the same pointers. Own work of this seat (turned from a worked proof of the kit's guide). -/
namespace Go.Proofs.Ytgohlbljdffelaa.AgStr
open Go.RowKit Go.Shelf Go.Proofs.Ytgohlbljdffelaa.Kit Go.Proofs.Ytgohlbljdffelaa
set_option linter.unusedVariables false
set_option linter.unusedSimpArgs false
attribute [local go_sem] Oper.semAt_some

/-- The pointer to a block. -/
def pv (b : Nat) : Value := .pointer (some ⟨b, 0, none⟩)
def upto {α : Type} (f : Nat → α) (k : Nat) : List α := (List.range k).map f
theorem upto_succ {α : Type} (f : Nat → α) (k : Nat) : upto f (k + 1) = upto f k ++ [f k] := by simp [upto, List.range_succ]
theorem upto_length {α : Type} (f : Nat → α) (k : Nat) : (upto f k).length = k := by simp [upto]
theorem upto_all (zs : List Nat) : upto (fun j => zs[j]?.getD 0) zs.length = zs := by
  apply List.ext_getElem
  · simp [upto]
  · intro i h1 h2
    simp [upto, h2]
theorem upto_take (zs : List Nat) {k : Nat} (hk : k ≤ zs.length) : upto (fun j => zs[j]?.getD 0) k = zs.take k := by
  apply List.ext_getElem
  · simp [upto, hk]
  · intro i h1 h2
    have : i < zs.length := by simp [upto] at h1; omega
    simp [upto, this]

set_option maxRecDepth 100000 in
set_option maxHeartbeats 2000000 in
theorem values1_in (F : Fence) (n : Nat) (h7 : F.fn 68) (hro : F.round = none) (hn : 1 ≤ n) (l Bs n₀ b off len cap : Nat) (zs : List Nat) (hreach : len ≤ 1000000) (hb : b < n₀) (J Jx : List Nat → World → Prop)
    (hY : ∀ pre x W, J pre W → pre.length < len → YieldAt F (n - 1) Try.prog l #[.pointer (some ⟨x, 0, none⟩)] W fun e W' =>
      (e = .returned (.bool true) ∧ J (pre ++ [x]) W' ∧ Below n₀ W W') ∨ (e = .returned (.bool false) ∧ Jx (pre ++ [x]) W'))
    (W : World) (hBs : W.cell? ⟨Bs, 0, none⟩ = some (.slice (some ⟨b, off, none⟩) len cap)) (hc : ∀ j, j < len → W.cell? ⟨b, off + j, none⟩ = some (.pointer (some ⟨zs[j]?.getD 0, 0, none⟩))) (h0 : J [] W) :
    CallsIn F n Try.prog 68 #[.func (.yield l) #[] #[], .pointer (some ⟨Bs, 0, none⟩)] W fun e W' => (∃ v, e = .returned v) ∧
      ((∃ ys, ys = upto (fun j => zs[j]?.getD 0) len ∧ J ys W') ∨ (∃ pre, (∃ k, k ≤ len ∧ pre = upto (fun j => zs[j]?.getD 0) k) ∧ Jx pre W')) := by
  refine callsIn_of_wp Try.func68 rfl h7 ?_ hro
  simp only [Try.ntmps68, List.size_toArray, List.length_cons, List.length_nil, Nat.reduceAdd, Nat.reduceSub, Array.replicate_succ, Array.replicate_zero, List.push_toArray, List.append_toArray, List.nil_append, List.cons_append]
  gi_wp2
  gi_loopw [7] (fun i wr => ∃ k : Nat, k ≤ len ∧ i = .int .i64 k ∧ J (upto (fun j => zs[j]?.getD 0) k) wr ∧ Below n₀ W wr)
    (fun i _ => len - (intOf i).toNat)
  case atStart => exact ⟨0, Nat.zero_le _, rfl, h0, Below.refl _ _⟩
  case round =>
    obtain ⟨k, hk, rfl, hJs, hnx⟩ := hrel
    have hcx : k < len → wr.cell? ⟨b, off + k, none⟩ = some (.pointer (some ⟨zs[k]?.getD 0, 0, none⟩)) := fun h => (hnx.cell (p := ⟨b, off + k, none⟩) hb).trans (hc k h)
    by_cases hlt : k < len
    · obtain ⟨fn, tmps, assign, body, hy, hR⟩ := hY _ (zs[k]?.getD 0) wr hJs (by rw [upto_length]; exact hlt)
      have hcx' := hcx hlt
      gi_wp2
      refine hR.mono ?_
      rintro e W3 (⟨rfl, hJ3, hk3⟩ | ⟨rfl, hJx3⟩)
      · gi_wp2
        go_roundw
        case rel => exact ⟨k + 1, by omega, by simp, by rw [upto_succ]; exact hJ3, hnx.trans hk3⟩
        case measure => simp [intOf]; omega
      · gi_wp2
        refine bodyPost_ret (results_none rfl _ _ _) rfl ?_
        exact ⟨⟨_, rfl⟩, .inr ⟨_, ⟨k + 1, by omega, (upto_succ _ _).symm⟩, hJx3⟩⟩
    · obtain rfl : k = len := by omega
      gi_wp2
      go_end0
      exact ⟨⟨_, rfl⟩, .inl ⟨_, rfl, hJs⟩⟩
set_option maxRecDepth 100000 in
set_option maxHeartbeats 1000000 in
theorem values1_nil_in (F : Fence) (n : Nat) (h7 : F.fn 68) (hro : F.round = none) (l Bs : Nat) (A : Option Addr) (cap : Nat) (J : List Nat → World → Prop) (W : World) (hBs : W.cell? ⟨Bs, 0, none⟩ = some (.slice A 0 cap)) (h0 : J [] W) :
    CallsIn F n Try.prog 68 #[.func (.yield l) #[] #[], .pointer (some ⟨Bs, 0, none⟩)] W fun e W' => (∃ v, e = .returned v) ∧ J [] W' := by
  refine callsIn_of_wp Try.func68 rfl h7 ?_ hro
  simp only [Try.ntmps68, List.size_toArray, List.length_cons, List.length_nil, Nat.reduceAdd, Nat.reduceSub, Array.replicate_succ, Array.replicate_zero, List.push_toArray, List.append_toArray, List.nil_append, List.cons_append]
  gi_wp2
  gi_loopw [7] (fun i wr => i = .int .i64 0 ∧ J [] wr) (fun _ _ => 0)
  case atStart => exact ⟨rfl, h0⟩
  case round =>
    obtain ⟨rfl, hJs⟩ := hrel
    gi_wp2
    go_end0
    exact ⟨⟨_, rfl⟩, hJs⟩
set_option maxHeartbeats 1000000 in
theorem values_in (F : Fence) (n : Nat) (h5 : F.fn 63) (hro : F.round = none) (a : Option Addr) (len cap : Nat) (w : World) :
    CallsIn F n Try.prog 63 #[.slice a len cap] w fun e w' => e = .returned (.func (.func 68) #[] #[.pointer (some ⟨w.heap.size, 0, none⟩)]) ∧ w' = w.alloc (.cells #[.slice a len cap] 90) := by
  refine callsIn_of_wp Try.func63 rfl h5 ?_ hro
  simp only [Try.ntmps63, List.size_toArray, List.length_cons, List.length_nil, Nat.reduceAdd, Nat.reduceSub, Array.replicate_succ, Array.replicate_zero, List.push_toArray, List.append_toArray, List.nil_append, List.cons_append]
  gi_wp2
  go_ret
  exact ⟨rfl, rfl⟩
/-- The slice value sv holds pointers to the blocks zs, in a block below n₀. -/
def Ptrs (n₀ : Nat) (W : World) (A : Option Addr) (zs : List Nat) : Prop :=
  zs = [] ∨ ∃ b off, A = some ⟨b, off, none⟩ ∧ b < n₀ ∧ ∀ j, j < zs.length → W.cell? ⟨b, off + j, none⟩ = some (.pointer (some ⟨zs[j]?.getD 0, 0, none⟩))
theorem Ptrs.below {n₀ : Nat} {A B : World} (h : Below n₀ A B) {sv : Option Addr} {zs : List Nat} : Ptrs n₀ A sv zs → Ptrs n₀ B sv zs
  | .inl e => .inl e
  | .inr ⟨b, off, e, hb, hc⟩ => .inr ⟨b, off, e, hb, fun j hj => (h.cell (p := ⟨b, off + j, none⟩) hb).trans (hc j hj)⟩
theorem values_stops (F : Fence) (n : Nat) (h7 : F.fn 68) (hro : F.round = none) (hn : 1 ≤ n) (Bs n₀ : Nat) (A : Option Addr) (cap : Nat) (zs : List Nat) (hreach : zs.length ≤ 1000000) (w : World) (hBs : Bs < w.heap.size) (hn₀ : n₀ ≤ w.heap.size)
    (hc : w.cell? ⟨Bs, 0, none⟩ = some (.slice A zs.length cap)) (hI : Ptrs n₀ w A zs) :
    SeqStopsK F n Try.prog 68 #[.pointer (some ⟨Bs, 0, none⟩)] (fun x : Nat => #[.pointer (some ⟨x, 0, none⟩)]) (Below n₀) (fun ys => ys = zs) (fun pre => pre <+: zs) zs.length w := fun l J Jx W hW _ _ hY h0 => by
  have hc' := (hW.cell (p := ⟨Bs, 0, none⟩) hBs).trans hc
  rcases hI.below (hW.mono hn₀) with rfl | ⟨b, off, rfl, hb, hcs⟩
  · exact (values1_nil_in F n h7 hro l Bs A cap J W hc' h0).mono fun e W' ⟨he, hj⟩ => ⟨he, .inl ⟨_, rfl, hj⟩⟩
  · refine (values1_in F n h7 hro hn l Bs n₀ b off zs.length cap zs hreach hb J Jx hY W hc' hcs h0).mono ?_
    rintro e W' ⟨he, ⟨ys, rfl, hj⟩ | ⟨pre, ⟨k, hk, rfl⟩, hj⟩⟩
    · exact ⟨he, .inl ⟨_, upto_all zs, hj⟩⟩
    · exact ⟨he, .inr ⟨_, by rw [upto_take zs hk]; exact List.take_prefix _ _, hj⟩⟩
theorem info_ptr : (Try.prog.info? 102).map (fun i => (i.zero, i.size, i.bytes)) = some (some (.pointer none), 1, 8) := by kernel_rfl
set_option maxRecDepth 100000 in
set_option maxHeartbeats 2000000 in
theorem appendSeq_in (F : Fence) (n : Nat) (h3 : F.fn 74) (h5 : F.fn 68) (hro : F.round = none) (hn : 3 ≤ n) (Bs n₀ : Nat) (A : Option Addr) (cap : Nat) (zs : List Nat) (hreach : zs.length ≤ 1000000) (w : World) (hBs : Bs < w.heap.size) (hn₀ : n₀ ≤ w.heap.size)
    (hcc : w.cell? ⟨Bs, 0, none⟩ = some (.slice A zs.length cap)) (hI : Ptrs n₀ w A zs) :
    CallsIn F n Try.prog 74 #[.slice none 0 0, .func (.func 68) #[] #[.pointer (some ⟨Bs, 0, none⟩)]] w fun e W' => ∃ v, e = .returned v ∧ W'.ownsRow w.heap.size 102 1 v zs.length (zs.map pv) ∧ (v = .slice none 0 0 ↔ zs = []) ∧ Below w.heap.size w W' := by
  have h1 : 1 ≤ n := by omega
  obtain ⟨i0, hi, hz0, hz1, hz2⟩ := info_parts info_ptr
  refine callsIn_of_wp_marks Try.func74 rfl h3 ?_ hro
  simp only [Try.ntmps74, List.size_toArray, List.length_cons, List.length_nil, Nat.reduceAdd, Nat.reduceSub, Array.replicate_succ, Array.replicate_zero, List.push_toArray, List.append_toArray, List.nil_append, List.cons_append]
  gi_wp2
  have bO := Boxed.new w 89 (.slice none 0 0)
  have hB0 : Below w.heap.size w (w.alloc (.cells #[.slice none 0 0] 89)) := (Below.refl _ w).alloc (Nat.le_refl _) _
  refine wpIn_rangeFunc_ownG hro h1 (gf := 68) (lb := #[.pointer (some ⟨Bs, 0, none⟩)]) rfl h5 (enters_of Try.func68 (by kernel_rfl) rfl)
    (values_stops F (n - 1) h5 hro (by omega) Bs n₀ A cap zs hreach _ (by simp; omega) (by simp; omega) ((hB0.cell (p := ⟨Bs, 0, none⟩) hBs).trans hcc) (hI.below (hB0.mono hn₀))) belowK_t (belowK_b (by simp; omega)) (Below.refl _ _) (fun _ => rfl)
    (fun pre W => (∃ v, Boxed W w.heap.size 89 v ∧ W.ownsRow w.heap.size 102 1 v pre.length (pre.map pv) ∧ (v = .slice none 0 0 ↔ pre = [])) ∧ Below w.heap.size w W)
    (fun _ _ _ => False)
    (OwnFrom.and (Own.from (holdsRow_own w.heap.size w.heap.size 89 102 1 (fun pre => pre.length) (fun pre => pre.map pv) (fun pre v => v = .slice none 0 0 ↔ pre = [])) _) (ownFrom_below (Nat.le_refl _) (by simp)))
    (fun _ _ _ _ _ hs _ _ => hs)
    ⟨⟨_, bO, World.ownsRow_nil _ _ _ _, by simp⟩, hB0⟩
    (fun x => { tmps := #[.slice none 0 0, .func (.func 68) #[] #[.pointer (some ⟨Bs, 0, none⟩)], .pointer (some ⟨w.heap.size, 0, none⟩), undef, .slice none 0 0, .pointer (some ⟨x, 0, none⟩), .func (.func 68) #[] #[.pointer (some ⟨Bs, 0, none⟩)], .pointer (some ⟨x, 0, none⟩), undef, undef, undef, undef, undef], defers := [] }) ?assign ?body ?done ?stop
  case assign =>
    intro l x W K hK
    gi_wp2
    exact hK
  case body =>
    rintro l pre x W ⟨⟨v, hv, hrow, hnil⟩, hB⟩ hlt
    have hc := hv.cell
    gi_wp2_with (gi_at_builtin; refine wpListIn_append_own _ rfl _ _ 89 rfl w.heap.size 102 i0 (.pointer none) 1 8 Try.underlying89 hi hz0 hz1 hz2 rfl (by decide) _ _ _ rfl (hrow.alloc _) ⟨W.heap.size, 0, none⟩ 1 1 [.pointer (some ⟨x, 0, none⟩)] rfl rfl (cell_one_new _ _ _) (by simp [Value.oneCell']) (by unfold maxLen; omega) (by omega) (by have := hB.size; simp; omega) ?_; intro v' w1 hown' hgrow _; obtain ⟨g', cap', rfl⟩ := ownsRow_succ hown'; obtain ⟨hv1, hv2, hr2, hk2, hb2⟩ := hv.appended (by decide) hrow hB.size (Nat.le_refl _) hown' hgrow; have hc1 := hv1.cell; have hf1 := hv1.frozen)
    exact ⟨hk2.from _, hb2.mono hn₀, ⟨_, hv2, by simpa [pv] using hr2, by simp⟩, hB.trans hb2⟩
  case done =>
    rintro D ys W hD rfl ⟨⟨v, hv, hrow, hnil⟩, hB⟩ hK
    have hc := hv.cell
    gi_wp2
    refine ⟨by simp, .inl ⟨_, _, rfl, run_takeDeferred hK, ?_⟩⟩
    exact ⟨_, results_tmp rfl _ _ _, v, rfl, ownsRow_putObj hrow _ hK rfl, hnil, hB.trans (belowK_b (w := w) (Nat.le_refl _) W D _ _ (by simp at hD; omega) hK rfl rfl)⟩
  case stop =>
    rintro D c pre W _ _ h _
    exact h.elim
set_option maxHeartbeats 1000000 in
theorem collect_in (F : Fence) (n : Nat) (h8 : F.fn 66) (h3 : F.fn 74) (h5 : F.fn 68) (hro : F.round = none) (hn : 4 ≤ n) (Bs n₀ : Nat) (A : Option Addr) (cap : Nat) (zs : List Nat) (hreach : zs.length ≤ 1000000) (w : World) (hBs : Bs < w.heap.size) (hn₀ : n₀ ≤ w.heap.size)
    (hcc : w.cell? ⟨Bs, 0, none⟩ = some (.slice A zs.length cap)) (hI : Ptrs n₀ w A zs) :
    CallsIn F n Try.prog 66 #[.func (.func 68) #[] #[.pointer (some ⟨Bs, 0, none⟩)]] w fun e W' => ∃ v, e = .returned v ∧ W'.ownsRow w.heap.size 102 1 v zs.length (zs.map pv) ∧ (v = .slice none 0 0 ↔ zs = []) ∧ Below w.heap.size w W' := by
  have h1 : 1 ≤ n := by omega
  refine callsIn_of_wp Try.func66 rfl h8 ?_ hro
  simp only [Try.ntmps66, List.size_toArray, List.length_cons, List.length_nil, Nat.reduceAdd, Nat.reduceSub, Array.replicate_succ, Array.replicate_zero, List.push_toArray, List.append_toArray, List.nil_append, List.cons_append]
  gi_wp2_with (gi_at_call 74; refine (appendSeq_in F (n - 1) h3 h5 hro (by omega) Bs n₀ A cap zs hreach _ hBs hn₀ hcc hI).mono ?_; rintro e w' ⟨v, rfl, hrow, hnil, hb⟩)
  go_ret
  exact ⟨v, rfl, hrow, hnil, hb⟩
end Go.Proofs.Ytgohlbljdffelaa.AgStr

/- The library's texts at this program, compared by the kernel: layings in plain words. No condition. -/
namespace Go.Proofs
open Go.Shelf
def Try.sortStr_ren : Go.Shelf.Ren := ⟨fun | 6 => 67 | 15 => 76 | 14 => 75 | 28 => 89 | 29 => 90 | 20 => 81 | 21 => 82 | 22 => 83 | 23 => 84 | 24 => 85 | 25 => 86 | 26 => 87 | 27 => 88 | 46 => 93 | 47 => 94 | 48 => 95 | 49 => 96 | 50 => 97 | 57 => 106 | n => n, fun | 22 => 89 | 24 => 102 | 25 => 130 | 3 => 3 | 39 => 148 | 0 => 0 | 53 => 160 | 55 => 162 | 4 => 4 | 46 => 154 | 45 => 153 | 50 => 42 | 5 => 5 | 9 => 9 | 66 => 165 | 70 => 169 | 76 => 176 | 77 => 177 | n => n, fun | n => n⟩
theorem Try.sortStr : Go.Proofs.SlLaysF.n6 Try.prog Try.sortStr_ren := {
  mixed := by kernel_rfl
  f6 := ⟨Try.f67.name, by decide, Try.func67.trans (congrArg some (by kernel_rfl))⟩
  f14 := ⟨Try.f75.name, by decide, Try.func75.trans (congrArg some (by kernel_rfl))⟩
  f15 := Try.func76.trans (congrArg some (by kernel_rfl))
  f20 := ⟨Try.f81.name, by decide, Try.func81.trans (congrArg some (by kernel_rfl))⟩
  f21 := ⟨Try.f82.name, by decide, Try.func82.trans (congrArg some (by kernel_rfl))⟩
  f22 := ⟨Try.f83.name, by decide, Try.func83.trans (congrArg some (by kernel_rfl))⟩
  f23 := ⟨Try.f84.name, by decide, Try.func84.trans (congrArg some (by kernel_rfl))⟩
  f24 := ⟨Try.f85.name, by decide, Try.func85.trans (congrArg some (by kernel_rfl))⟩
  f25 := ⟨Try.f86.name, by decide, Try.func86.trans (congrArg some (by kernel_rfl))⟩
  f26 := ⟨Try.f87.name, by decide, Try.func87.trans (congrArg some (by kernel_rfl))⟩
  f27 := ⟨Try.f88.name, by decide, Try.func88.trans (congrArg some (by kernel_rfl))⟩
  f28 := Try.func89.trans (congrArg some (by kernel_rfl))
  f29 := Try.func90.trans (congrArg some (by kernel_rfl))
  f46 := ⟨Try.f93.name, by decide, Try.func93.trans (congrArg some (by kernel_rfl))⟩
  f47 := Try.func94.trans (congrArg some (by kernel_rfl))
  f48 := Try.func95.trans (congrArg some (by kernel_rfl))
  f49 := ⟨Try.f96.name, by decide, Try.func96.trans (congrArg some (by kernel_rfl))⟩
  f50 := ⟨Try.f97.name, by decide, Try.func97.trans (congrArg some (by kernel_rfl))⟩
  f57 := ⟨Try.f106.name, by decide, Try.func106.trans (congrArg some (by kernel_rfl))⟩
  t0 := Try.underlying0
  a0 := Try.isAgg0
  z0 := Try.sizeOf0
  v0 := Try.zeroValue0
  t3 := Try.underlying3
  a3 := Try.isAgg3
  z3 := Try.sizeOf3
  v3 := Try.zeroValue3
  t4 := Try.underlying4
  a4 := Try.isAgg4
  z4 := Try.sizeOf4
  v4 := Try.zeroValue4
  t5 := Try.underlying5
  a5 := Try.isAgg5
  z5 := Try.sizeOf5
  v5 := Try.zeroValue5
  t9 := Try.underlying9
  a9 := Try.isAgg9
  z9 := Try.sizeOf9
  v9 := Try.zeroValue9
  t22 := Try.underlying89
  a22 := Try.isAgg89
  z22 := Try.sizeOf89
  v22 := Try.zeroValue89
  a24 := Try.isAgg102
  z24 := Try.sizeOf102
  t25 := Try.underlying130
  a25 := Try.isAgg130
  z25 := Try.sizeOf130
  v25 := Try.zeroValue130
  t39 := Try.underlying148
  a39 := Try.isAgg148
  z39 := Try.sizeOf148
  v39 := Try.zeroValue148
  t45 := Try.underlying153
  a45 := Try.isAgg153
  z45 := Try.sizeOf153
  v45 := Try.zeroValue153
  t46 := Try.underlying154
  a46 := Try.isAgg154
  z46 := Try.sizeOf154
  v46 := Try.zeroValue154
  t50 := Try.underlying42
  a50 := Try.isAgg42
  z50 := Try.sizeOf42
  v50 := Try.zeroValue42
  t53 := Try.underlying160
  a53 := Try.isAgg160
  z53 := Try.sizeOf160
  v53 := Try.zeroValue160
  t55 := Try.underlying162
  a55 := Try.isAgg162
  z55 := Try.sizeOf162
  v55 := Try.zeroValue162
  t66 := Try.underlying165
  a66 := Try.isAgg165
  z66 := Try.sizeOf165
  v66 := Try.zeroValue165
  t70 := Try.underlying169
  a70 := Try.isAgg169
  z70 := Try.sizeOf169
  v70 := Try.zeroValue169
  t76 := Try.underlying176
  a76 := Try.isAgg176
  z76 := Try.sizeOf176
  v76 := Try.zeroValue176
  t77 := Try.underlying177
  a77 := Try.isAgg177
  z77 := Try.sizeOf177
  v77 := Try.zeroValue177 }
def Try.sortInt_ren : Go.Shelf.Ren := ⟨fun | 6 => 79 | 15 => 76 | 14 => 92 | 28 => 89 | 29 => 90 | 20 => 98 | 21 => 99 | 22 => 100 | 23 => 101 | 24 => 102 | 25 => 103 | 26 => 104 | 27 => 105 | 46 => 107 | 47 => 94 | 48 => 95 | 49 => 108 | 50 => 109 | 57 => 110 | n => n, fun | 22 => 69 | 24 => 73 | 25 => 143 | 3 => 3 | 39 => 148 | 0 => 0 | 53 => 160 | 55 => 162 | 4 => 4 | 46 => 154 | 45 => 153 | 50 => 42 | 5 => 5 | 9 => 9 | 66 => 165 | 70 => 169 | 76 => 176 | 77 => 177 | n => n, fun | n => n⟩
theorem Try.sortInt : Go.Proofs.SlLaysF.n6 Try.prog Try.sortInt_ren := {
  mixed := by kernel_rfl
  f6 := ⟨Try.f79.name, by decide, Try.func79.trans (congrArg some (by kernel_rfl))⟩
  f14 := ⟨Try.f92.name, by decide, Try.func92.trans (congrArg some (by kernel_rfl))⟩
  f15 := Try.func76.trans (congrArg some (by kernel_rfl))
  f20 := ⟨Try.f98.name, by decide, Try.func98.trans (congrArg some (by kernel_rfl))⟩
  f21 := ⟨Try.f99.name, by decide, Try.func99.trans (congrArg some (by kernel_rfl))⟩
  f22 := ⟨Try.f100.name, by decide, Try.func100.trans (congrArg some (by kernel_rfl))⟩
  f23 := ⟨Try.f101.name, by decide, Try.func101.trans (congrArg some (by kernel_rfl))⟩
  f24 := ⟨Try.f102.name, by decide, Try.func102.trans (congrArg some (by kernel_rfl))⟩
  f25 := ⟨Try.f103.name, by decide, Try.func103.trans (congrArg some (by kernel_rfl))⟩
  f26 := ⟨Try.f104.name, by decide, Try.func104.trans (congrArg some (by kernel_rfl))⟩
  f27 := ⟨Try.f105.name, by decide, Try.func105.trans (congrArg some (by kernel_rfl))⟩
  f28 := Try.func89.trans (congrArg some (by kernel_rfl))
  f29 := Try.func90.trans (congrArg some (by kernel_rfl))
  f46 := ⟨Try.f107.name, by decide, Try.func107.trans (congrArg some (by kernel_rfl))⟩
  f47 := Try.func94.trans (congrArg some (by kernel_rfl))
  f48 := Try.func95.trans (congrArg some (by kernel_rfl))
  f49 := ⟨Try.f108.name, by decide, Try.func108.trans (congrArg some (by kernel_rfl))⟩
  f50 := ⟨Try.f109.name, by decide, Try.func109.trans (congrArg some (by kernel_rfl))⟩
  f57 := ⟨Try.f110.name, by decide, Try.func110.trans (congrArg some (by kernel_rfl))⟩
  t0 := Try.underlying0
  a0 := Try.isAgg0
  z0 := Try.sizeOf0
  v0 := Try.zeroValue0
  t3 := Try.underlying3
  a3 := Try.isAgg3
  z3 := Try.sizeOf3
  v3 := Try.zeroValue3
  t4 := Try.underlying4
  a4 := Try.isAgg4
  z4 := Try.sizeOf4
  v4 := Try.zeroValue4
  t5 := Try.underlying5
  a5 := Try.isAgg5
  z5 := Try.sizeOf5
  v5 := Try.zeroValue5
  t9 := Try.underlying9
  a9 := Try.isAgg9
  z9 := Try.sizeOf9
  v9 := Try.zeroValue9
  t22 := Try.underlying69
  a22 := Try.isAgg69
  z22 := Try.sizeOf69
  v22 := Try.zeroValue69
  a24 := Try.isAgg73
  z24 := Try.sizeOf73
  t25 := Try.underlying143
  a25 := Try.isAgg143
  z25 := Try.sizeOf143
  v25 := Try.zeroValue143
  t39 := Try.underlying148
  a39 := Try.isAgg148
  z39 := Try.sizeOf148
  v39 := Try.zeroValue148
  t45 := Try.underlying153
  a45 := Try.isAgg153
  z45 := Try.sizeOf153
  v45 := Try.zeroValue153
  t46 := Try.underlying154
  a46 := Try.isAgg154
  z46 := Try.sizeOf154
  v46 := Try.zeroValue154
  t50 := Try.underlying42
  a50 := Try.isAgg42
  z50 := Try.sizeOf42
  v50 := Try.zeroValue42
  t53 := Try.underlying160
  a53 := Try.isAgg160
  z53 := Try.sizeOf160
  v53 := Try.zeroValue160
  t55 := Try.underlying162
  a55 := Try.isAgg162
  z55 := Try.sizeOf162
  v55 := Try.zeroValue162
  t66 := Try.underlying165
  a66 := Try.isAgg165
  z66 := Try.sizeOf165
  v66 := Try.zeroValue165
  t70 := Try.underlying169
  a70 := Try.isAgg169
  z70 := Try.sizeOf169
  v70 := Try.zeroValue169
  t76 := Try.underlying176
  a76 := Try.isAgg176
  z76 := Try.sizeOf176
  v76 := Try.zeroValue176
  t77 := Try.underlying177
  a77 := Try.isAgg177
  z77 := Try.sizeOf177
  v77 := Try.zeroValue177 }
end Go.Proofs

/- agenda: slices.SortFunc of its items by their order, slices.SortedFunc of slices.Values, Keys. Own work of this seat; no condition but on lengths. -/
namespace Go.Proofs.Ytgohlbljdffelaa.AgStr
open Go.RowKit Go.Shelf Go.Sort Go.Proofs.Ytgohlbljdffelaa.Kit Go.Proofs.Ytgohlbljdffelaa.Cmp Go.Proofs.Ytgohlbljdffelaa.AgP Go.Proofs.Ytgohlbljdffelaa
set_option linter.unusedVariables false
set_option linter.unusedSimpArgs false

set_option maxRecDepth 100000 in
set_option maxHeartbeats 1000000 in
theorem compare_exact {w : World} (x y : It) (i j : Nat) (hx : Blk w x.blk 104 (icells x i)) (hy : Blk w y.blk 104 (icells y j)) :
    Calls Try.prog 64 #[ptr x, ptr y] w fun e w' => e = .returned (.int .i64 (cmpV x y)) ∧ w' = (w.alloc (.cells #[.int .i64 (cmpI x.tm y.tm), .int .i64 (cmpI x.turn y.turn)] 3)).drew := by
  unfold ptr cmpV
  obtain ⟨k1, t1, u1, b1⟩ := x
  obtain ⟨k2, t2, u2, b2⟩ := y
  have x1 := hx.cell (i := 1) rfl
  have x2 := hx.cell (i := 2) rfl
  have y1 := hy.cell (i := 1) rfl
  have y2 := hy.cell (i := 2) rfl
  have hxl := hx.lt
  have hyl := hy.lt
  simp only at x1 x2 y1 y2 hxl hyl ⊢
  clear hx hy
  have HC0 := fun (a b : Int) (w : World) => Go.Proofs.Ytgohlbljdffelaa.Cmp.compare_calls a b w
  have HC := Lib.hid HC0
  have HO0 : ∀ a b : Int, Blk ((w.alloc (.cells #[.int .i64 a, .int .i64 b] 3)).drew) w.heap.size 3 [.int .i64 a, .int .i64 b] := fun a b => (blk_new w [.int .i64 a, .int .i64 b] 3).drew
  have HO := Lib.hid HO0
  clear HC0 HO0
  go_enter Try.func64, Try.ntmps64
  go_upto_region 1 with (fail)
  go_region_held3 (fun w' => w'.cell? ⟨b1, 1, none⟩ = some (.int .i64 t1) ∧ w'.cell? ⟨b1, 2, none⟩ = some (.int .i64 u1) ∧ w'.cell? ⟨b2, 1, none⟩ = some (.int .i64 t2) ∧ w'.cell? ⟨b2, 2, none⟩ = some (.int .i64 u2)) (go_keep)
    (first | (go_at_call 70; refine (HC.out _ _ _).mono ?_; rintro e w' ⟨rfl, rfl⟩) | (go_at_call 69; refine (or_calls _ _ (HO.out _ _)).mono ?_; rintro e w' ⟨rfl, rfl⟩))
  go_wp2
  go_ret
  exact ⟨rfl, rfl⟩
theorem lt_trans' {x y z : It} (h : lt x y = true) (k : lt y z = true) : lt x z = true := by
  rw [lt_iff] at *; omega
theorem ev_cases {L : List (Ev ByteArray)} (hs : Sorted L) : ∀ a ∈ L, ∀ b ∈ L, a = b ∨ ltE a b ∨ ltE b a := by
  induction L with
  | nil => intro a h; cases h
  | cons x l ih =>
    have hx := List.pairwise_cons.1 hs
    intro a ha b hb
    rcases List.mem_cons.1 ha with e1 | ha'
    · rcases List.mem_cons.1 hb with e2 | hb'
      · exact .inl (e1.trans e2.symm)
      · exact .inr (.inl (e1 ▸ hx.1 b hb'))
    · rcases List.mem_cons.1 hb with e2 | hb'
      · exact .inr (.inr (e2 ▸ hx.1 a ha'))
      · exact ih hx.2 a ha' b hb'
theorem step_sorted {α : Type} [Inhabited α] (enc : α → Value) {w : World} {g n : Nat} {os : Array Obj} (d : Array α) : Step (· = g) w (Go.Proofs.sortWorld enc w g 0 n d os) := by
  unfold Go.Proofs.sortWorld
  refine ⟨rfl, rfl, rfl, by simp [Sort.grow, Sort.ahead], fun k hk hne => ?_⟩
  rw [heap_grow_old _ _ (by simpa using hk)]
  have : g ≠ k := fun e => hne e.symm
  simp [putRow, mapBlock, Sort.ahead, Array.getElem?_modify, this]
set_option maxRecDepth 100000 in
theorem sort_calls {w : World} {xs : List It} {blk cap : Nat} {L : List (Ev ByteArray)} (hne : xs ≠ []) (hb : ∀ x ∈ xs, x.blk ≠ blk ∧ ∃ i, Blk w x.blk 104 (icells x i)) (hrow : FSeg w 102 1 (some ⟨blk, 0, none⟩) xs.length cap (xs.map ptr)) (hp : (xs.map proj).Perm L) (hs : Sorted L) (hlen : xs.length ≤ 1000000) :
    Calls Try.prog 67 #[.slice (some ⟨blk, 0, none⟩) xs.length cap, .func (.func 64) #[] #[]] w fun e w' =>
      e = .returned (.tuple #[]) ∧ ∃ ys : List It, ys.map proj = L ∧ (∀ y ∈ ys, y ∈ xs) ∧ ys.length = xs.length ∧ FSeg w' 102 1 (some ⟨blk, 0, none⟩) xs.length cap (ys.map ptr) ∧ Step (· = blk) w w' := by
  obtain ⟨x0, hx0⟩ : ∃ x, x ∈ xs := by
    cases xs with
    | nil => exact absurd rfl hne
    | cons x l => exact ⟨x, List.mem_cons_self ..⟩
  haveI : Inhabited { x : It // x ∈ xs } := ⟨⟨x0, hx0⟩⟩
  let enc : { x : It // x ∈ xs } → Value := fun x => ptr x.1
  let cf : { x : It // x ∈ xs } → { x : It // x ∈ xs } → Int := fun x y => cmpV x.1 y.1
  let d : Array { x : It // x ∈ xs } := xs.attach.toArray
  have hds : d.size = xs.length := by simp [d]
  have hblk : blk < w.heap.size := hrow.lt rfl
  have hdj : ∀ j, (hj : j < xs.length) → d[j]! = ⟨xs[j], List.getElem_mem hj⟩ := fun j hj => by
    rw [getElem!_pos d j (by rw [hds]; exact hj)]
    simp [d]
  have hlt : ∀ x y, ltOf cf x y = lt x.1 y.1 := fun x y => cmpV_lt x.1 y.1
  have hO : SWO (ltOf cf) := by
    refine ⟨fun x => ?_, fun x y z => ?_, fun x y z => ?_⟩
    · rw [hlt, lt_not]; omega
    · rw [hlt, hlt, hlt]; exact lt_trans'
    · rw [hlt, hlt, hlt, lt_not, lt_not, lt_not]; omega
  have hH : Holds enc w blk 0 d := fun j hj => by
    rw [hds] at hj
    refine ⟨?_, FSeg.free hrow _⟩
    rw [Nat.zero_add, hdj j hj]
    exact FSeg.cell hrow (by rw [List.getElem?_map, List.getElem?_eq_getElem hj]; rfl)
  have hcmp : Go.Proofs.CmpLays1 Try.prog 64 #[] enc cf blk 0 d.size w := fun m os dk hsz x y => by
    obtain ⟨h1, i, hi⟩ := hb x.1 x.2
    obtain ⟨h2, j, hj⟩ := hb y.1 y.2
    have hst := step_sorted enc (w := w) (g := blk) (n := m) (os := os) dk
    have := compare_exact x.1 y.1 i j (hi.keep hst h1) (hj.keep hst h2)
    refine this.mono ?_
    rintro e w' ⟨rfl, rfl⟩
    exact ⟨rfl, 1, #[.cells #[.int .i64 (cmpI x.1.tm y.1.tm), .int .i64 (cmpI x.1.turn y.1.turn)] 3], by rw [alloc_eq_grow]; rfl⟩
  have h := Go.Proofs.Any.slices_SortFunc Try.sortStr enc (fun x => rfl) cf hO 64 #[] blk 0 cap d w (enters_of Try.func64 (by kernel_rfl) rfl) hcmp hH hblk (by rw [hds]; omega)
  rw [hds] at h
  refine Calls.mono (show Calls Try.prog 67 _ _ _ from h) ?_
  rintro e w' ⟨he, d', n, os, hpm, hsd, rfl⟩
  obtain ⟨hs1, _, hpe⟩ := hpm
  have hd's : d'.size = xs.length := hs1.trans hds
  have hpe' : d'.toList.Perm d.toList := by
    have e1 : d'.extract 0 xs.length = d' := by rw [← hd's]; simp
    have e2 : d.extract 0 xs.length = d := by rw [← hds]; simp
    rw [e1, e2] at hpe
    exact hpe
  have hyl : (d'.toList.map (·.1)).length = xs.length := by simp [hd's]
  have hpx : (d'.toList.map (·.1)).Perm xs := by
    refine (hpe'.map _).trans ?_
    show (xs.attach.toArray.toList.map (·.1)).Perm xs
    rw [List.toList_toArray, List.attach_map_subtype_val]
  refine ⟨he, d'.toList.map (·.1), ?_, fun y hy => hpx.mem_iff.1 hy, hyl, ?_, step_sorted enc d'⟩
  · refine List.Perm.eq_of_pairwise (le := fun a b => ¬ ltE b a) (fun a b ha hb' h1 h2 => ?_) ?_ ?_ ((hpx.map proj).trans hp)
    · have ha' : a ∈ L := ((hpx.map proj).trans hp).mem_iff.1 ha
      rcases ev_cases hs a ha' b hb' with h | h | h
      · exact h
      · exact absurd h h2
      · exact absurd h h1
    · rw [List.pairwise_map, List.pairwise_map, List.pairwise_iff_getElem]
      intro i j hi hj hij
      have hi' : i < d'.size := by simpa using hi
      have hj' : j < d'.size := by simpa using hj
      have := hsd i j (Nat.zero_le _) hij (by omega)
      rw [hlt, getElem!_pos d' i hi', getElem!_pos d' j hj'] at this
      rw [lt_not] at this
      simp only [Array.getElem_toList]
      intro hl
      apply this
      exact hl
    · exact hs.imp (fun {a b} h k => by unfold ltE at h k; omega)
  · obtain ⟨hl, ⟨h0, _⟩ | ⟨g', cur, e', hg, h3, h4, h5⟩⟩ := hrow
    · cases h0
    obtain rfl : blk = g' := by simpa using e'
    have hw : (Go.Proofs.sortWorld enc w blk 0 n d' os).heap[blk]? = some (.cells (putCells enc 0 d' cur) 102 (0, 0)) := by
      unfold Go.Proofs.sortWorld
      rw [heap_grow_old _ _ (by simpa using hblk)]
      simp [putRow, mapBlock, Sort.ahead, Array.getElem?_modify, hg, onCells]
    refine ⟨by rw [List.length_map, hyl, Nat.mul_one], .inr ⟨blk, _, rfl, hw, h3, by simpa [putCells] using h4, fun j v hj => ?_⟩⟩
    have hj1 : j < xs.length := by
      have := (List.getElem?_eq_some_iff.1 hj).1
      rw [List.length_map, hyl] at this
      exact this
    have hjd : j < d'.size := by omega
    have hjc : j < cur.size := by omega
    rw [putCells, Array.getElem?_mapIdx, Array.getElem?_eq_getElem hjc]
    simp only [Option.map_some]
    rw [if_pos ⟨Nat.zero_le _, by omega⟩, Nat.sub_zero, getElem!_pos d' j hjd]
    rw [List.map_map, List.getElem?_map, Array.getElem?_toList, Array.getElem?_eq_getElem hjd] at hj
    exact hj

theorem collect_calls {w : World} {Bs n0 : Nat} {A : Option Addr} {cap : Nat} {zs : List Nat} (hreach : zs.length ≤ 1000000) (hBs : Bs < w.heap.size) (hn0 : n0 ≤ w.heap.size) (hcc : w.cell? ⟨Bs, 0, none⟩ = some (.slice A zs.length cap)) (hI : Ptrs n0 w A zs) :
    Calls Try.prog 66 #[.func (.func 68) #[] #[.pointer (some ⟨Bs, 0, none⟩)]] w fun e W' => ∃ v, e = .returned v ∧ W'.ownsRow w.heap.size 102 1 v zs.length (zs.map pv) ∧ (v = .slice none 0 0 ↔ zs = []) ∧ Below w.heap.size w W' :=
  callsIn_wide.1 (collect_in Fence.wide 4 trivial trivial trivial rfl (Nat.le_refl _) Bs n0 A cap zs hreach w hBs hn0 hcc hI)
theorem values_calls (a : Option Addr) (len cap : Nat) (w : World) :
    Calls Try.prog 63 #[.slice a len cap] w fun e w' => e = .returned (.func (.func 68) #[] #[.pointer (some ⟨w.heap.size, 0, none⟩)]) ∧ w' = w.alloc (.cells #[.slice a len cap] 90) :=
  callsIn_wide.1 (values_in Fence.wide 4 trivial rfl a len cap w)
set_option maxRecDepth 100000 in
set_option maxHeartbeats 1000000 in
theorem sorted_calls {w : World} {xs : List It} {A : Option Addr} {cap Bs : Nat} {L : List (Ev ByteArray)} (hBs : w.cell? ⟨Bs, 0, none⟩ = some (.slice A xs.length cap)) (hrow : FSeg w 102 1 A xs.length cap (xs.map ptr)) (hb : ∀ x ∈ xs, ∃ i, Blk w x.blk 104 (icells x i)) (hp : (xs.map proj).Perm L) (hs : Sorted L) (hlen : xs.length ≤ 1000000) :
    Calls Try.prog 62 #[.func (.func 68) #[] #[.pointer (some ⟨Bs, 0, none⟩)], .func (.func 64) #[] #[]] w fun e w' =>
      ∃ (B : Option Addr) (cB : Nat) (ys : List It), e = .returned (.slice B xs.length cB) ∧ ys.map proj = L ∧ (∀ y ∈ ys, y ∈ xs) ∧ ys.length = xs.length ∧ FSeg w' 102 1 B xs.length cB (ys.map ptr) ∧ (∀ k, blockOf B = some k → w.heap.size ≤ k) ∧ Step (fun _ => False) w w' := by
  have hzl : (xs.map (·.blk)).length = xs.length := List.length_map ..
  have hptr : (xs.map (·.blk)).map pv = xs.map ptr := by rw [List.map_map]; rfl
  have hI : Ptrs w.heap.size w A (xs.map (·.blk)) := by
    rcases Nat.eq_zero_or_pos xs.length with h0 | h0
    · left
      rw [List.eq_nil_of_length_eq_zero h0]; rfl
    · right
      obtain ⟨g, rfl⟩ := FSeg.isSome hrow h0
      refine ⟨g, 0, rfl, FSeg.lt hrow rfl, fun j hj => ?_⟩
      rw [hzl] at hj
      rw [Nat.zero_add]
      refine FSeg.cell hrow ?_
      rw [List.getElem?_map, List.getElem?_map, List.getElem?_eq_getElem hj]
      rfl
  have hBl := cell_lt' hBs
  have HC := Lib.hid (collect_calls (zs := xs.map (·.blk)) (by rw [hzl]; exact hlen) hBl (Nat.le_refl _) (by rw [hzl]; exact hBs) hI)
  rw [hzl, hptr] at HC
  have HB := Lib.hid hb
  clear hBs hrow hI hb
  by_cases hne : xs = []
  · subst hne
    obtain rfl : L = [] := hp.symm.eq_nil
    have HSN := Lib.hid (fun (w1 : World) => (show Calls Try.prog 67 #[.slice none 0 0, .func (.func 64) #[] #[]] w1 fun e w' => e = .returned (.tuple #[]) ∧ w' = w1 from Go.Proofs.AnyF.slices_SortFunc_none { Try.sortStr with } none 0 (.func (.func 64) #[] #[]) w1))
    have HC2 := Lib.hid (HC.out.mono (R' := fun e w' => e = .returned (.slice none 0 0) ∧ Below w.heap.size w w') (fun e w' ⟨v, he, _, hv, hbl⟩ => ⟨by rw [he, hv.2 rfl], hbl⟩))
    clear HC hzl hptr hp
    go_enter Try.func62, Try.ntmps62
    go_wp2_with (first | (go_at_call 66; refine HC2.out.mono ?_; rintro e1 w1 ⟨rfl, hb1⟩) | (go_at_call 67; refine (HSN.out _).mono ?_; rintro e2 w2 ⟨rfl, rfl⟩))
    go_ret
    exact ⟨none, 0, [], rfl, rfl, fun y hy => (by cases hy), rfl, fseg_nil _ _ _, fun k hk => (by cases hk), Step.of_below hb1⟩
  · have hn0 : xs.length ≠ 0 := fun e => hne (List.eq_nil_of_length_eq_zero e)
    have HC2 := Lib.hid (HC.out.mono (R' := fun e w' => ∃ g cap', e = .returned (.slice (some ⟨g, 0, none⟩) xs.length cap') ∧ w.heap.size ≤ g ∧ FSeg w' 102 1 (some ⟨g, 0, none⟩) xs.length cap' (xs.map ptr) ∧ Step (fun _ => False) w w') (fun e w' ⟨v, he, hown, hv, hbl⟩ => by
      rcases hown with ⟨h1, ⟨h2, h3⟩ | ⟨g, cap', cur, h2, h3, h4, h5, h6, h7, h8⟩⟩
      · exact absurd h3 hn0
      · refine ⟨g, cap', by rw [he, h2], h3, ⟨by rw [List.length_map, Nat.mul_one], .inr ⟨g, cur, rfl, h4, h5, by omega, fun j u hj => ?_⟩⟩, Step.of_below hbl⟩
        have hjl : j < xs.length := by
          have := (List.getElem?_eq_some_iff.1 hj).1
          rwa [List.length_map] at this
        rw [← h8, List.getElem?_take_of_lt (by omega)] at hj
        simpa using hj))
    have HSS := Lib.hid (fun (w1 : World) (g cap' : Nat) (hg : w.heap.size ≤ g) (hr : FSeg w1 102 1 (some ⟨g, 0, none⟩) xs.length cap' (xs.map ptr)) (hst : Step (fun _ => False) w w1) => sort_calls hne (fun x hx => by
      obtain ⟨i, hi⟩ := HB.out x hx
      exact ⟨by have := hi.lt; omega, i, hi.keep hst (fun h => h)⟩) hr hp hs hlen)
    generalize xs.length = n at *
    clear HC hzl hptr
    go_enter Try.func62, Try.ntmps62
    go_wp2_with (first | (go_at_call 66; refine HC2.out.mono ?_; rintro e1 w1 ⟨g, cap', rfl, hg, hr1, hs1⟩) | (go_at_call 67; refine (HSS.out _ g cap' hg hr1 hs1).mono ?_; rintro e2 w2 ⟨rfl, ys, hy1, hy2, hyl, hy3, hs2⟩))
    go_ret
    exact ⟨some ⟨g, 0, none⟩, cap', ys, rfl, hy1, hy2, hyl, hy3, fun k hk => by obtain rfl : g = k := Option.some.inj hk; exact hg, hs1.trans hs2 (fun j hj e => by omega)⟩

theorem i0key : ∃ i, Try.prog.info? 9 = some i ∧ i.zero = some (Value.string (⟨#[]⟩ : ByteArray)) ∧ i.size = 1 ∧ i.bytes = 16 := by
  obtain ⟨i, hi, hp⟩ := Option.map_eq_some_iff.1 (by kernel_rfl : (Try.prog.info? 9).map (fun i => (i.zero, i.size, i.bytes)) = some (some (Value.string (⟨#[]⟩ : ByteArray)), 1, 16))
  simp only [Prod.mk.injEq] at hp
  exact ⟨i, hi, hp⟩
theorem app_key {w : World} {A : Option Addr} {n c b : Nat} {l : List Value} {v : Value} (h : FSeg w 9 1 A n c l) (hv : v.oneCell' = true) (hB : Blk w b 9 [v]) (hb : n + 1 ≤ 1000000) :
    ∃ A' c' w', (Builtin.append_ #[100, 100] 100 #[.slice A n c, .slice (some ⟨b, 0, none⟩) 1 1]).run Try.prog w = .ok (.slice A' (n + 1) c') w' ∧ FSeg w' 9 1 A' (n + 1) c' (l ++ [v]) ∧ Step (fun k => blockOf A = some k) w w' ∧ (blockOf A' = blockOf A ∨ ∃ k, blockOf A' = some k ∧ w.heap.size ≤ k) := by
  obtain ⟨i0, hi0, hz0, hs0, hy0⟩ := i0key
  exact run_app_one 100 9 Try.underlying100 hi0 hz0 rfl hs0 hy0 (by omega) h rfl (fun x hx => by
    obtain rfl : x = v := by simpa using hx
    exact hv) hB hb
set_option maxRecDepth 100000 in
set_option maxHeartbeats 2000000 in
theorem keys_calls {w : World} {a : Nat} {F : Nat → Prop} {L : List (Ev ByteArray)} {t : Nat} (h : AgR w a F L t) (ht : t ≤ 100000) :
    Calls Try.prog 45 #[.pointer (some ⟨a, 0, none⟩)] w fun e w' => ∃ (B : Option Addr) (cB : Nat), e = .returned (.slice B L.length cB) ∧ FSeg w' 9 1 B L.length cB (L.map (fun s => Value.string s.key)) ∧ (∀ k, blockOf B = some k → w.heap.size ≤ k) ∧ Step (fun _ => False) w w' := by
  obtain ⟨h1, h2, h3, xs, A, c, M, m, n, f, hx, hp, hFk⟩ := h
  have hxl := hx.lt
  have hLl : xs.length = L.length := by have := hp.length_eq; simpa using this
  have c0 := hx.hm.blk.cell (i := 0) rfl
  have HX := Lib.hid hx
  have HV := Lib.hid (fun w1 => values_calls A xs.length c w1)
  have HSC := Lib.hid (fun (w1 : World) (Bs : Nat) (hBs : w1.cell? ⟨Bs, 0, none⟩ = some (.slice A xs.length c)) (hst : Step (fun _ => False) w w1) => sorted_calls hBs (hx.hm.row.keep hst (fun _ _ h => h)) (fun x hx' => by
    obtain ⟨i, hi⟩ := List.getElem?_of_mem hx'
    exact ⟨i, (hx.hm.itm i x hi).keep hst (fun h => h)⟩) hp h1 (by omega))
  have HIT := Lib.hid (fun x (hx' : x ∈ xs) => (by
    obtain ⟨i, hi⟩ := List.getElem?_of_mem hx'
    exact ⟨i, hx.hm.itm i x hi⟩ : ∃ i, Blk w x.blk 104 (icells x i)))
  rw [hLl] at HV HSC c0 hxl
  clear hx hLl
  go_enter Try.func45, Try.ntmps45
  go_upto_region 2 with (fail)
  have hal : Step (fun _ => False) w (w.alloc (.cells #[.slice A L.length c] 90)) := (Step.refl _ _).alloc _
  have hbc : (w.alloc (.cells #[.slice A L.length c] 90)).cell? ⟨w.heap.size, 0, none⟩ = some (.slice A L.length c) := (blk_new w [.slice A L.length c] 90).cell (i := 0) rfl
  have HSS := Lib.hid (HSC.out _ _ hbc hal)
  have HAL := Lib.hid hal
  clear hbc hal HSC
  obtain ⟨nl, hnl⟩ : ∃ nl, L.length = nl := ⟨_, rfl⟩
  rw [hnl] at HV HSS HAL c0 hxl
  have HNL := Lib.hid hnl
  clear hnl
  go_wp2_with (first | (go_at_call 63; refine (HV.out _).mono ?_; rintro e1 w1 ⟨rfl, rfl⟩) | (go_at_call 62; refine HSS.out.mono ?_; rintro e2 w2 ⟨R, cR, ys, rfl, hy1, hy2, hyl, hR, hRf, hs2⟩))
  have hst2 := HAL.out.same hs2
  have hyL : ys.length = nl := by rw [← HNL.out, ← hy1, List.length_map]
  have hRf' : ∀ k, blockOf R = some k → k < w2.heap.size := fun k hk => FSeg.lt hR hk
  have HR := Lib.hid hR
  have HY := Lib.hid hy1
  have HY2 := Lib.hid hy2
  have HYL := Lib.hid hyL
  have HST2 := Lib.hid hst2
  clear hR hy1 hy2 hyl hyL hst2 hs2 HAL HSS HV c0 hRf
  go_loopw [3, 13] (fun v3 v13 wr => ∃ (i : Nat) (B : Option Addr) (cB : Nat), v13 = .int .i64 (i : Int) ∧ v3 = .slice B i cB ∧ i ≤ nl ∧ FSeg wr 9 1 B i cB ((L.take i).map (fun s => Value.string s.key)) ∧ (∀ k, blockOf B = some k → w2.heap.size ≤ k) ∧ Step (fun _ => False) w2 wr) (fun _ v _ => nl - (intOf v).toNat)
  case atStart => exact ⟨0, none, 0, rfl, rfl, Nat.zero_le _, fseg_nil _ _ _, fun k hk => (by cases hk), Step.refl _ _⟩
  case round =>
    obtain ⟨i, B, cB, rfl, rfl, hi, hB, hBf, hst⟩ := hrel
    by_cases hin : i < nl
    · have hin' : ((i : Int) < (nl : Int)) := by omega
      have hil : i < ys.length := by rw [HYL.out]; exact hin
      obtain ⟨gR, rfl⟩ := FSeg.isSome HR.out (by omega)
      have hRr := HR.out.keep hst (fun _ _ h => h)
      have hc : wr.cell? ⟨gR, i, none⟩ = some (.pointer (some ⟨ys[i].blk, 0, none⟩)) := FSeg.cell hRr (by rw [List.getElem?_map, List.getElem?_eq_getElem hil]; rfl)
      obtain ⟨pl, hpl⟩ := HIT.out _ (HY2.out _ (List.getElem_mem hil))
      have hib := (hpl.keep HST2.out (fun h => h)).keep hst (fun h => h)
      have hk0 := hib.cell (i := 0) rfl
      have hTK : Hid ((L.take (i + 1)).map (fun s => Value.string s.key) = (L.take i).map (fun s => Value.string s.key) ++ [Value.string ys[i].key]) := Lib.hid (by
        have e1 : L[i]? = some (proj ys[i]) := by rw [← HY.out, List.getElem?_map, List.getElem?_eq_getElem hil]; rfl
        rw [List.take_add_one, e1, List.map_append]
        rfl)
      clear hRr hpl hib
      generalize ys[i] = y at *
      obtain ⟨yk, yt, yn, yb⟩ := y
      simp only at hc hk0 hTK
      have HB := Lib.hid hB
      clear hB
      go_upto_region 5 with (fail)
      have hal : Step (fun _ => False) wr (wr.alloc (.cells #[Value.string yk] 9)) := (Step.refl _ _).alloc _
      obtain ⟨B5, c5, w5, hap, hB6, hs5, hn5⟩ := app_key (v := Value.string yk) (HB.out.keep hal (fun _ _ h => h)) rfl (blk_new wr [Value.string yk] 9) (by omega)
      rw [← hTK.out] at hB6
      have hzr := hst.size
      have hzl := hal.size
      have HB6 := Lib.hid hB6
      have HST6 := Lib.hid ((hst.same hal).trans hs5 (fun j hj h => by have := hBf j h; omega))
      have hB5f : ∀ k, blockOf B5 = some k → w2.heap.size ≤ k := fun k hk => by
        rcases hn5 with e | ⟨j, e, hj⟩
        · exact hBf k (e ▸ hk)
        · rw [hk] at e
          obtain rfl := Option.some.inj e
          omega
      clear hB6 hal hs5 hn5 HB hTK
      go_wp2_with (at_builtin; refine wpList_app1 (by rfl) (.tmp 17) (.tmp 22) 100 (by rfl) (by rfl) (by rfl) hap ?_)
      go_roundw
      case rel => exact ⟨i + 1, B5, c5, by go_num, rfl, by omega, HB6.out, hB5f, HST6.out⟩
      case measure => simp [intOf]; omega
    · have hin' : ¬ ((i : Int) < (nl : Int)) := by omega
      obtain rfl : i = nl := by omega
      rw [List.take_of_length_le (by rw [HNL.out]; exact Nat.le_refl _)] at hB
      have HB := Lib.hid hB
      have hz2 := HST2.out.size
      clear hB
      go_wp2
      go_ret
      exact ⟨B, cB, by rw [HNL.out]; rfl, by rw [HNL.out]; exact HB.out, fun k hk => by have := hBf k hk; omega, HST2.out.same hst⟩
end Go.Proofs.Ytgohlbljdffelaa.AgStr

/- agenda: At (where the seat has it). Own work of this seat. -/
namespace Go.Proofs.Ytgohlbljdffelaa.AgStr
open Go.RowKit Go.Proofs.Ytgohlbljdffelaa.Kit Go.Proofs.Ytgohlbljdffelaa.Cmp Go.Proofs.Ytgohlbljdffelaa.HeapP Go.Proofs.Ytgohlbljdffelaa.AgP
set_option linter.unusedVariables false
set_option linter.unusedSimpArgs false

set_option maxRecDepth 100000 in
set_option maxHeartbeats 1000000 in
theorem at_calls {w : World} {a : Nat} {F : Nat → Prop} {L : List (Ev ByteArray)} {t : Nat} (h : AgR w a F L t) {k : ByteArray} (hk : KOk k) :
    Calls Try.prog 47 #[.pointer (some ⟨a, 0, none⟩), Value.string k] w fun e w' => e = .returned (.tuple #[.int .i64 (atV L k).1, .bool (atV L k).2]) ∧ w = w' := by
  have hnd := h.nodup
  obtain ⟨h1, h2, h3, xs, A, c, M, m, n, f, hx, hp, hF⟩ := h
  have c1 := hx.hm.blk.cell (i := 1) rfl
  have hlook := hx.mg.look_ok kkeyed Try.underlying88 (zptr w) (slit_ok k) (kkey hk)
  unfold atV
  rcases find_it hp hnd k with ⟨e1, e2, _⟩ | ⟨i, x, hi, hxk, e1⟩
  · rw [e1]
    rw [(hx.fm k).2 e2] at hlook
    simp only [Option.getD_none, Option.isSome_none] at hlook ⊢
    clear hx hp hF h1 h2 h3 e1 e2 hnd
    go_enter Try.func47, Try.ntmps47
    go_wp2
    go_ret2
    exact ⟨rfl, rfl⟩
  · rw [e1]
    rw [(hx.fm k).1 x (List.mem_of_getElem? hi) hxk] at hlook
    simp only [Option.getD_some, Option.isSome_some] at hlook ⊢
    have d1 := (hx.hm.itm i x hi).cell (i := 1) rfl
    unfold ptr at hlook
    unfold proj
    simp only
    clear hx hp hF h1 h2 h3 e1 hnd hi hxk
    go_enter Try.func47, Try.ntmps47
    go_wp2
    go_ret2
    exact ⟨rfl, rfl⟩
end Go.Proofs.Ytgohlbljdffelaa.AgStr

/- agenda: Len (where the seat has it). Own work of this seat. -/
namespace Go.Proofs.Ytgohlbljdffelaa.AgStr
open Go.RowKit Go.Proofs.Ytgohlbljdffelaa.Kit Go.Proofs.Ytgohlbljdffelaa.Cmp Go.Proofs.Ytgohlbljdffelaa.HeapP Go.Proofs.Ytgohlbljdffelaa.AgP
set_option linter.unusedVariables false
set_option linter.unusedSimpArgs false

theorem alen_calls {w : World} {a : Nat} {F : Nat → Prop} {L : List (Ev ByteArray)} {t : Nat} (h : AgR w a F L t) : Calls Try.prog 31 #[.pointer (some ⟨a, 0, none⟩)] w fun e w' => e = .returned (.int .i64 (L.length : Int)) ∧ w = w' := by
  obtain ⟨h1, h2, h3, xs, A, c, M, m, n, f, hx, hp, hF⟩ := h
  have c0 := hx.hm.cell0
  have hl := hp.length_eq
  rw [List.length_map] at hl
  rw [hl] at c0
  clear hl
  go_enter Try.func31, Try.ntmps31
  go_wp2
  go_ret
  exact ⟨rfl, rfl⟩

end Go.Proofs.Ytgohlbljdffelaa.AgStr

/- stewardlaw01.Cut: a text's first bytes. Own work of this seat. -/
namespace Go.Proofs.Ytgohlbljdffelaa.Cut
open Go.RowKit Go.Proofs.Ytgohlbljdffelaa.Kit
set_option linter.unusedVariables false
set_option linter.unusedSimpArgs false
def cutB (s : ByteArray) (n : Nat) : ByteArray := if n < s.size then s.extract 0 n else s
theorem cutB_size (s : ByteArray) (n : Nat) : (cutB s n).size ≤ n := by
  unfold cutB
  split
  · rw [ByteArray.size_extract]; omega
  · omega
set_option maxRecDepth 100000 in
theorem cut_calls (s : ByteArray) (n : Nat) (hs : s.size ≤ 9223372036854775807) (w : World) : Calls Try.prog 15 #[.string s, .int .i64 (n : Int)] w fun e w' => e = .returned (.string (cutB s n)) ∧ w = w' := by
  unfold cutB
  by_cases h : n < s.size
  · rw [if_pos h]
    have h' : (n : Int) < (s.size : Int) := by omega
    have h0 : (0 : Int) ≤ (n : Int) := by omega
    have h1 : (n : Int) ≤ (s.size : Int) := by omega
    go_enter Try.func15, Try.ntmps15
    go_wp2
    go_ret
    exact ⟨rfl, rfl⟩
  · rw [if_neg h]
    have h' : ¬ (n : Int) < (s.size : Int) := by omega
    go_enter Try.func15, Try.ntmps15
    go_wp2
    go_ret
    exact ⟨rfl, rfl⟩
end Go.Proofs.Ytgohlbljdffelaa.Cut

/- law 20: a call of both, the agenda and the document's list. Own work of this seat. -/
namespace Go.Proofs.Ytgohlbljdffelaa.Ord
open Go.RowKit Go.Proofs.Ytgohlbljdffelaa.Kit Go.Proofs.Ytgohlbljdffelaa.AgP Go.Proofs.Ytgohlbljdffelaa.It Go.Proofs.Ytgohlbljdffelaa.Cut Go.Proofs.Ytgohlbljdffelaa
set_option linter.unusedVariables false
set_option linter.unusedSimpArgs false

/-- The document's items of a list of what is to be done. -/
def its (L : List (Ev ByteArray)) : List It.It := L.map (fun s => ⟨s.key, s.tm⟩)
theorem its_length (L : List (Ev ByteArray)) : (its L).length = L.length := List.length_map ..
theorem its_drop (L : List (Ev ByteArray)) (k : ByteArray) : its (dropL L k) = itDrop (its L) k := by
  unfold its dropL itDrop
  rw [List.filter_map]
  rfl
theorem its_ins (L : List (Ev ByteArray)) (k : ByteArray) (n t : Int) : its (insL L ⟨k, n, t⟩) = itIns (its L) ⟨k, n⟩ := by
  unfold its insL itIns
  rw [List.takeWhile_map, List.dropWhile_map, List.map_append, List.map_cons]
  rfl
theorem its_set (L : List (Ev ByteArray)) (k : ByteArray) (v t : Int) : its (setL L k (AgStr.clipT v) t) = itSet (its L) k v := by
  unfold setL itSet
  rw [its_ins, its_drop]
  rfl
theorem drop_is (L : List (Ev ByteArray)) (k : ByteArray) : (atL L k).isSome = decide ((itDrop (its L) k).length < L.length) := by
  rw [← its_drop, its_length]
  unfold atL dropL
  induction L with
  | nil => rfl
  | cons s L ih =>
    have h1 := List.length_filter_le (fun s : Ev ByteArray => decide (s.key ≠ k)) L
    by_cases e : s.key = k
    · rw [List.find?_cons, List.filter_cons]
      simp [e]
      have h2 := List.length_filter_le (fun s : Ev ByteArray => !decide (s.key = k)) L
      omega
    · rw [List.find?_cons, List.filter_cons]
      simp only [e, decide_false, ne_eq, not_false_eq_true, decide_true, if_true, List.length_cons]
      rw [ih]
      simp
/-- Both: the agenda is L, and the row reads as the document's items of it, in blocks that are not the agenda's. -/
structure Bo (w : World) (a : Nat) (F : Nat → Prop) (L : List (Ev ByteArray)) (t : Nat) (A : Option Addr) (c : Nat) : Prop where
  ag : AgStr.AgR w a F L t
  rd : IRd w A L.length (its L)
  le : L.length ≤ c
  sep : ∀ k, blockOf A = some k → ¬ F k
  lt : ∀ k, blockOf A = some k → k < w.heap.size
theorem Bo.same {w w' : World} {a : Nat} {F : Nat → Prop} {L : List (Ev ByteArray)} {t : Nat} {A : Option Addr} {c : Nat} (h : Bo w a F L t A c) (hs : Step (fun _ => False) w w') : Bo w' a F L t A c := ⟨h.ag.same hs, h.rd.same hs, h.le, h.sep, fun k hk => Nat.lt_of_lt_of_le (h.lt k hk) hs.size⟩
theorem Bo.keep {w w' : World} {a : Nat} {F G : Nat → Prop} {L : List (Ev ByteArray)} {t : Nat} {A : Option Addr} {c : Nat} (h : Bo w a F L t A c) (hs : Step G w w') (h1 : ∀ k, F k → ¬ G k) (h2 : ∀ k, blockOf A = some k → ¬ G k) : Bo w' a F L t A c := ⟨h.ag.keep hs h1, h.rd.keep hs h2, h.le, h.sep, fun k hk => Nat.lt_of_lt_of_le (h.lt k hk) hs.size⟩

set_option maxRecDepth 100000 in
set_option maxHeartbeats 2000000 in
theorem do_calls {w : World} {a : Nat} {F : Nat → Prop} {L : List (Ev ByteArray)} {t : Nat} {A : Option Addr} {c : Nat} (h : Bo w a F L t A c) (ht : t ≤ 10000) (kd nn : Int) (ks : ByteArray) (hks : ks.size ≤ 9223372036854775807) :
    Calls Try.prog 22 #[.pointer (some ⟨a, 0, none⟩), .slice A L.length c, .agg #[.int .i64 kd, .int .i64 nn, .string ks]] w fun e w' => ∃ F' L' t' A' c', e = .returned (.tuple #[.slice A' L'.length c', .bool true]) ∧ Bo w' a F' L' t' A' c' ∧ t' ≤ t + 1 ∧ Step F w w' ∧ (∀ k, F' k → F k ∨ w.heap.size ≤ k) ∧ (∀ k, blockOf A' = some k → blockOf A = some k ∨ w.heap.size ≤ k) := by
  have hlt := h.ag.len_le
  have HCU := Lib.hid (fun w' => cut_calls ks 8 hks w')
  have hssz := cutB_size ks 8
  generalize cutB ks 8 = s at *
  have HB := Lib.hid h
  have hsk : AgStr.KOk s := by show s.size ≤ 1000; omega
  obtain ⟨nl, hnl⟩ : ∃ nl, L.length = nl := ⟨_, rfl⟩
  have HNL := Lib.hid hnl
  rw [hnl] at hlt ⊢
  clear h hnl
  go_enter Try.func22, Try.ntmps22
  go_upto_region 1 with (fail)
  refine alloc_next (cs := [.int .i64 kd, .int .i64 nn, .string ks]) ?_
  intro w1 hE hs1
  have hB1 := HB.out.same hs1
  have hFb : ∀ k, F k → k < w.heap.size := fun k hk => HB.out.ag.lt hk
  have hAb : ∀ k, 0 < nl → blockOf A = some k → k < w.heap.size := fun k h0 hk => RSeg.lt HB.out.rd (by rw [HNL.out]; exact h0) (by omega) hk
  have hz1 := hs1.size
  obtain ⟨eb, heb⟩ : ∃ eb, w.heap.size = eb := ⟨_, rfl⟩
  rw [heb] at hE
  have HEB := Lib.hid heb
  have e2 := hE.cell (i := 2) rfl
  rw [heb]
  clear heb
  go_upto_region 2 with (go_at_call 15; refine (HCU.out _).mono ?_; rintro e5 w5 ⟨rfl, rfl⟩)
  have e0 := hE.cell (i := 0) rfl
  have e1 := hE.cell (i := 1) rfl
  clear e2 HCU
  have HB1 := Lib.hid hB1
  have hnl1 := HNL.out
  by_cases k0 : kd = 0
  · subst k0
    have HA := Lib.hid (AgStr.set_calls hB1.ag (by omega) hsk nn)
    clear hB1
    go_upto_region 5 with (go_at_call 29; refine HA.out.mono ?_; rintro e6 w6 ⟨rfl, F6, hA6, hs6, hn6⟩)
    have hE6 := hE.keep hs6 (fun h => by have := hFb _ h; have := HEB.out; omega)
    have x1 := hE6.cell (i := 1) rfl
    have hR6 : IRd w6 A nl (its L) := by have := HB1.out.rd.keep hs6 HB1.out.sep; rwa [hnl1] at this
    have HS := Lib.hid (It.set_calls (c := c) hR6 (by omega) s nn)
    rw [← its_set L s nn ((t + 1 : Nat) : Int), its_length] at HS
    have HA6 := Lib.hid hA6
    clear HA e0 e1 hA6
    go_wp2_with (go_at_call 41; refine HS.out.mono ?_; rintro e7 w7 ⟨B7, c7, rfl, hW7, hBf7, hs7⟩)
    go_ret2
    have hz6 := hs6.size
    have hz0 := HEB.out
    exact ⟨F6, _, t + 1, B7, c7, rfl, ⟨HA6.out.same hs7, hW7.rd, FSeg.le hW7, fun k hk hF => by have := hBf7 k hk; have := HA6.out.lt hF; omega, fun k hk => FSeg.lt hW7 hk⟩, Nat.le_refl _, ((hs1.mono (fun _ _ h => h.elim)).same hs6).same (hs7.mono (fun _ _ h => h.elim)), fun k hk => (hn6 k hk).imp id (fun h => by omega), fun k hk => .inr (by have := hBf7 k hk; omega)⟩
  · have q0 : (kd == 0) = false := by simp [k0]
    by_cases k1 : kd = 1
    · subst k1
      have hR1 : IRd w1 A nl (its L) := by have := hB1.rd; rwa [hnl1] at this
      have HS := Lib.hid (It.drop_calls (c := c) hR1 (by omega) s)
      have hdi := drop_is L s
      rw [← its_drop, its_length] at HS hdi
      rw [hnl1] at hdi
      rw [← hdi] at HS
      have HA := Lib.hid (fun w2 (hs2 : Step (fun _ => False) w1 w2) => AgStr.drop_calls (hB1.ag.same hs2) (by omega) hsk)
      clear hB1 hR1 hdi
      generalize (atL L s).isSome = ob at *
      have hob : (ob == ob) = true := by simp
      go_upto_region 8 with (go_at_call 42; refine HS.out.mono ?_; rintro e7 w7 ⟨B7, c7, rfl, hW7, hBf7, hs7⟩)
      clear e0 e1 HS
      go_wp2_with (go_at_call 43; refine (HA.out _ hs7).mono ?_; rintro e8 w8 ⟨rfl, hA8, hs8⟩)
      go_ret2
      have hz7 := hs7.size
      have hz0 := HEB.out
      have hBF : ∀ k, blockOf B7 = some k → ¬ F k := fun k hk hF => by have := hBf7 k hk; have := hFb k hF; omega
      exact ⟨F, _, t, B7, c7, rfl, ⟨hA8, (IW.keep hW7 hs8 hBF).rd, FSeg.le hW7, hBF, fun k hk => Nat.lt_of_lt_of_le (FSeg.lt hW7 hk) hs8.size⟩, Nat.le_succ _, ((hs1.mono (fun _ _ h => h.elim)).same (hs7.mono (fun _ _ h => h.elim))).same hs8, fun k hk => .inl hk, fun k hk => .inr (by have := hBf7 k hk; omega)⟩
    · have q1 : (kd == 1) = false := by simp [k1]
      have HA := Lib.hid (AgStr.apop_calls hB1.ag (by omega) nn)
      by_cases hno : ∀ x ∈ (its L).head?, nn < x.tm
      · have hpv : AgStr.popV L nn = (⟨#[]⟩, 0, false) ∧ AgStr.popL L nn = L := by
          cases L with
          | nil => exact ⟨rfl, rfl⟩
          | cons x r =>
            have := hno ⟨x.key, x.tm⟩ rfl
            unfold AgStr.popV AgStr.popL
            simp only
            rw [if_pos this, if_pos this]
            exact ⟨rfl, rfl⟩
        rw [hpv.1, hpv.2] at HA
        clear hpv hB1
        go_upto_region 10 with (go_at_call 30; refine HA.out.mono ?_; rintro e6 w6 ⟨rfl, hA6, hs6⟩)
        have hE6 := hE.keep hs6 (fun h => by have := hFb _ h; have := HEB.out; omega)
        have x1 := hE6.cell (i := 1) rfl
        have hR6 : IRd w6 A nl (its L) := by have := HB1.out.rd.keep hs6 HB1.out.sep; rwa [hnl1] at this
        have HS := Lib.hid (It.pop_none (c := c) hR6 (by omega) nn hno)
        have HA6 := Lib.hid hA6
        have HR6 := Lib.hid hR6
        clear HA e0 e1 hno hA6 hR6
        go_upto_region 11 with (go_at_call 44; refine HS.out.mono ?_; rintro e7 w7 ⟨rfl, hs7⟩)
        refine alloc_next (cs := [.string ⟨#[]⟩, .int .i64 0]) ?_
        intro w8 hX hs8
        have y0 := hX.cell (i := 0) rfl
        have y1 := hX.cell (i := 1) rfl
        generalize w7.heap.size = xb at *
        clear x1 HS hE hE6
        go_wp2
        go_ret2
        have hB8 : Bo w8 a F L t A c := ⟨(HA6.out.same hs7).same hs8, by rw [hnl1]; exact (HR6.out.same hs7).same hs8, HB.out.le, HB.out.sep, fun k hk => by have := HB.out.lt k hk; have := hs6.size; have := hs7.size; have := hs8.size; omega⟩
        exact ⟨F, L, t, A, c, by rw [hnl1]; rfl, hB8, Nat.le_succ _, (((hs1.mono (fun _ _ h => h.elim)).same hs6).same (hs7.mono (fun _ _ h => h.elim))).same (hs8.mono (fun _ _ h => h.elim)), fun k hk => .inl hk, fun k hk => .inl hk⟩
      · obtain ⟨x, r, hL, hx⟩ : ∃ x r, L = x :: r ∧ ¬ nn < x.tm := by
          cases L with
          | nil => exact absurd (fun x hx => by cases hx) hno
          | cons x r => exact ⟨x, r, rfl, fun h => hno (fun y hy => by
              obtain rfl : (⟨x.key, x.tm⟩ : It.It) = y := by simpa [its] using hy
              exact h)⟩
        have hpv : AgStr.popV L nn = (x.key, x.tm, true) ∧ AgStr.popL L nn = r := by
          rw [hL]
          unfold AgStr.popV AgStr.popL
          simp only
          rw [if_neg hx, if_neg hx]
          exact ⟨rfl, rfl⟩
        rw [hpv.1, hpv.2] at HA
        have hrl : r.length = nl - 1 := by rw [← hnl1, hL]; rfl
        have hn0 : 0 < nl := by rw [← hnl1, hL]; simp
        have hcl : nl ≤ c := by have := HB.out.le; omega
        clear hpv hB1
        go_upto_region 10 with (go_at_call 30; refine HA.out.mono ?_; rintro e6 w6 ⟨rfl, hA6, hs6⟩)
        have hE6 := hE.keep hs6 (fun h => by have := hFb _ h; have := HEB.out; omega)
        have x1 := hE6.cell (i := 1) rfl
        have hR6 : IRd w6 A nl (⟨x.key, x.tm⟩ :: its r) := by have := HB1.out.rd.keep hs6 HB1.out.sep; rw [hnl1, hL] at this; exact this
        have HS := Lib.hid (It.pop_some (c := c) hR6 (by omega) hcl nn (show ¬ nn < x.tm by omega))
        have HA6 := Lib.hid hA6
        have HRL := Lib.hid hrl
        have HLL := Lib.hid hL
        obtain ⟨xk, xt, xn⟩ := x
        simp only at HS
        clear HA e0 e1 hno hA6 hR6 hx hrl hL
        go_upto_region 11 with (go_at_call 44; refine HS.out.mono ?_; rintro e7 w7 ⟨A7, rfl, hR7, hb7, hs7⟩)
        refine alloc_next (cs := [.string xk, .int .i64 xt]) ?_
        intro w8 hX hs8
        have y0 := hX.cell (i := 0) rfl
        have y1 := hX.cell (i := 1) rfl
        generalize w7.heap.size = xb at *
        have HR7 := Lib.hid hR7
        have HB7 := Lib.hid hb7
        clear x1 HS hE hE6 hR7 hb7
        go_wp2
        go_ret2
        have hB8 : Bo w8 a F r t A7 (c - 1) := ⟨(HA6.out.same hs7).same hs8, by rw [HRL.out]; exact HR7.out.same hs8, by rw [HRL.out]; omega, fun k hk => HB.out.sep k (by rw [← HB7.out]; exact hk), fun k hk => by have := HB.out.lt k (by rw [← HB7.out]; exact hk); have := hs6.size; have := hs7.size; have := hs8.size; omega⟩
        exact ⟨F, r, t, A7, c - 1, by rw [HRL.out]; rfl, hB8, Nat.le_succ _, (((hs1.mono (fun _ _ h => h.elim)).same hs6).same (hs7.mono (fun _ _ h => h.elim))).same (hs8.mono (fun _ _ h => h.elim)), fun k hk => .inl hk, fun k hk => .inl (by rw [← HB7.out]; exact hk)⟩
end Go.Proofs.Ytgohlbljdffelaa.Ord

/- law 20: is. Own work of this seat. -/
namespace Go.Proofs.Ytgohlbljdffelaa.Ord
open Go.RowKit Go.Proofs.Ytgohlbljdffelaa.Kit Go.Proofs.Ytgohlbljdffelaa.AgP Go.Proofs.Ytgohlbljdffelaa.It Go.Proofs.Ytgohlbljdffelaa.Cut Go.Proofs.Ytgohlbljdffelaa
set_option linter.unusedVariables false
set_option linter.unusedSimpArgs false

theorem at_is {L : List (Ev ByteArray)} (hn : (L.map (·.key)).Nodup) {i : Nat} {s : Ev ByteArray} (h : L[i]? = some s) : AgStr.atV L s.key = (s.tm, true) := by
  have hm := List.mem_of_getElem? h
  have : atL L s.key = some s := by
    unfold atL
    induction L generalizing i with
    | nil => simp at h
    | cons x l ih =>
      rw [List.map_cons, List.nodup_cons] at hn
      rw [List.find?_cons]
      rcases List.mem_cons.1 hm with e | hm'
      · subst e; simp
      · have hne : x.key ≠ s.key := fun e => hn.1 (e ▸ List.mem_map_of_mem hm')
        simp only [hne, decide_false]
        obtain ⟨j, hj⟩ := List.getElem?_of_mem hm'
        exact ih hn.2 hj hm'
  unfold AgStr.atV
  rw [this]
theorem first_some (L : List (Ev ByteArray)) : (AgStr.firstL L).2 = decide (0 < L.length) := by
  cases L with
  | nil => rfl
  | cons x r => simp [AgStr.firstL]
set_option maxRecDepth 100000 in
set_option maxHeartbeats 4000000 in
theorem is_calls {w : World} {a : Nat} {F : Nat → Prop} {L : List (Ev ByteArray)} {t : Nat} {A : Option Addr} {c : Nat} (h : Bo w a F L t A c) (ht : t ≤ 10000) :
    Calls Try.prog 23 #[.pointer (some ⟨a, 0, none⟩), .slice A L.length c] w fun e w' => e = .returned (.bool true) ∧ Step (fun _ => False) w w' := by
  have hlt := h.ag.len_le
  have hnd := h.ag.nodup
  have hkk := h.ag.kok
  have HKE := Lib.hid (AgStr.keys_calls h.ag (by omega))
  have HB := Lib.hid h
  have HFI := Lib.hid (fun w' (hs : Step (fun _ => False) w w') => AgStr.first_calls (h.ag.same hs) (by omega))
  have HLE := Lib.hid (fun w' (hs : Step (fun _ => False) w w') => AgStr.alen_calls (h.ag.same hs))
  have HAT := Lib.hid (fun w' (hs : Step (fun _ => False) w w') (k : ByteArray) (hk : k.size ≤ 1000) => AgStr.at_calls (h.ag.same hs) (k := k) hk)
  have HND := Lib.hid hnd
  have HKK := Lib.hid hkk
  obtain ⟨nl, hnl⟩ : ∃ nl, L.length = nl := ⟨_, rfl⟩
  have HNL := Lib.hid hnl
  rw [hnl] at hlt HKE HLE ⊢
  have hcl : nl ≤ c := by have := h.le; omega
  have hcell : 0 < nl → ∃ g o, A = some ⟨g, o, none⟩ ∧ ∀ w', Step (fun _ => False) w w' → w'.cell? ⟨g, o + 1, none⟩ = some (.int .i64 (AgStr.firstL L).1) := fun h0 => by
    obtain ⟨g, o, rfl⟩ := RSeg.isSome h.rd (by omega) (by omega)
    refine ⟨g, o, rfl, fun w' hs => ?_⟩
    cases L with
    | nil => simp at hnl; omega
    | cons x r => exact RSeg.cell (h.rd.same hs) rfl
  have hf2 : (AgStr.firstL L).2 = decide (0 < nl) := by rw [← hnl]; exact first_some L
  have hf1 : nl = 0 → (AgStr.firstL L).1 = 0 := fun h0 => by
    obtain rfl : L = [] := List.eq_nil_of_length_eq_zero (by omega)
    rfl
  clear h hnl hnd hkk
  generalize AgStr.firstL L = fl at *
  obtain ⟨f1, f2⟩ := fl
  simp only at hf2 hcell hf1 HFI
  have hne : (((nl : Nat) : Int) != (nl : Int)) = false := by simp
  go_enter Try.func23, Try.ntmps23
  go_upto_region 2 with (go_at_call 45; refine HKE.out.mono ?_; rintro e1 w1 ⟨B, cB, rfl, hK, hBf, hs1⟩)
  have HK := Lib.hid hK
  have HST1 := Lib.hid hs1
  clear hK HKE
  go_upto_region 3 with (go_at_call 46; refine (HFI.out _ hs1).mono ?_; rintro e2 w2 ⟨rfl, rfl⟩)
  have hf11 : (f1 != f1) = false := by simp
  by_cases h0 : 0 < nl
  · obtain rfl : f2 = true := by rw [hf2]; exact decide_eq_true h0
    obtain ⟨g, o, rfl, hc⟩ := hcell h0
    have hc1 := hc _ hs1
    have h0' : (0 : Int) < (nl : Int) := by omega
    have h0'' : ((nl : Int) > 0) := by omega
    clear hcell hf1 hf2 HFI hc
    go_wp2_with (go_at_call 31; refine (HLE.out _ hs1).mono ?_; rintro e3 w3 ⟨rfl, rfl⟩)
    clear hs1 HLE hc1
    go_loopw [59] (fun v59 wr => ∃ i : Nat, v59 = .int .i64 (i : Int) ∧ i ≤ nl ∧ Step (fun _ => False) w1 wr) (fun v _ => nl - (intOf v).toNat)
    case atStart => exact ⟨0, rfl, Nat.zero_le _, Step.refl _ _⟩
    case round =>
      obtain ⟨i, rfl, hi, hst⟩ := hrel
      by_cases hin : i < nl
      · have hin' : ((i : Int) < (nl : Int)) := by omega
        have hst0 := HST1.out.same hst
        have hR := HB.out.rd.same hst0
        rw [HNL.out] at hR
        obtain ⟨s, hs⟩ : ∃ s, L[i]? = some s := ⟨_, List.getElem?_eq_getElem (by rw [HNL.out]; exact hin)⟩
        have hit : (its L)[i]? = some ⟨s.key, s.tm⟩ := by unfold its; rw [List.getElem?_map, hs]; rfl
        obtain ⟨g0, g1⟩ := itcs_at hit
        have a0 := RSeg.cell hR g0
        have a1 := RSeg.cell' hR g1
        rw [Nat.add_zero] at a0
        have hKK := HK.out.keep hst (fun _ _ h => h)
        obtain ⟨gB, rfl⟩ := FSeg.isSome hKK (by omega)
        have b0 : wr.cell? ⟨gB, i, none⟩ = some (.string s.key) := FSeg.cell hKK (by rw [List.getElem?_map, hs]; rfl)
        have hks : s.key.size ≤ 1000 := HKK.out s (List.mem_of_getElem? hs)
        have HA := Lib.hid (fun w' (hst' : Step (fun _ => False) wr w') => HAT.out w' (hst0.same hst') s.key hks)
        rw [at_is HND.out hs] at HA
        have hB0 := Lib.hid (fun w' (hst' : Step (fun _ => False) wr w') => (hKK.keep hst' (fun _ _ h => h)).cell (j := i) (v := .string s.key) (by rw [List.getElem?_map, hs]; rfl))
        obtain ⟨sk, stm, sn⟩ := s
        simp only at a0 a1 b0 HA hB0
        clear hR hs hit g0 g1 hKK hks
        go_upto_region 8 with (fail)
        refine alloc_next (cs := [.string sk, .int .i64 stm]) ?_
        intro w4 hX hs4
        have x0 := hX.cell (i := 0) rfl
        have HA4 := Lib.hid (HA.out w4 hs4)
        generalize wr.heap.size = xb at *
        clear a0 a1 b0 HA
        go_upto_region 9 with (go_at_call 47; refine HA4.out.mono ?_; rintro e5 w5 ⟨rfl, rfl⟩)
        have x1 := hX.cell (i := 1) rfl
        have b1 := hB0.out w4 hs4
        have hse : (sk.toList == sk.toList) = true := by simp
        have hte : (stm != stm) = false := by simp
        go_quiet (fail)
        all_goals
          go_wp2
          go_roundw
          case rel => exact ⟨i + 1, by go_num, by omega, by first | exact (hst.same hs4).drew | exact (hst.same hs4).drewN _ | exact hst.same hs4⟩
          case measure => simp [intOf]; omega
      · have hin' : ¬ ((i : Int) < (nl : Int)) := by omega
        go_wp2
        go_ret
        exact ⟨rfl, HST1.out.same hst⟩
  · obtain rfl : f2 = false := by rw [hf2]; exact decide_eq_false h0
    obtain rfl : nl = 0 := by omega
    obtain rfl : f1 = 0 := hf1 rfl
    clear hcell hf1 hf2 HFI
    go_wp2_with (go_at_call 31; refine (HLE.out _ hs1).mono ?_; rintro e3 w3 ⟨rfl, rfl⟩)
    clear hs1 HLE
    go_loopw [59] (fun v59 wr => v59 = .int .i64 ((0 : Nat) : Int) ∧ Step (fun _ => False) w1 wr) (fun _ _ => 0)
    case atStart => exact ⟨rfl, Step.refl _ _⟩
    case round =>
      obtain ⟨rfl, hst⟩ := hrel
      go_wp2
      go_ret
      exact ⟨rfl, HST1.out.same hst⟩
end Go.Proofs.Ytgohlbljdffelaa.Ord

/- agenda: the items and their pile in memory; compare, Len, Less. Own work of this seat. -/
namespace Go.Proofs.Ytgohlbljdffelaa.AgInt
open Go.RowKit Go.Proofs.Ytgohlbljdffelaa.Kit Go.Proofs.Ytgohlbljdffelaa.Cmp Go.Proofs.Ytgohlbljdffelaa.HeapP
set_option linter.unusedVariables false
set_option linter.unusedSimpArgs false

structure It where
  key : Int
  tm : Int
  turn : Int
  blk : Nat
instance : Inhabited It := ⟨⟨default, 0, 0, 0⟩⟩
def lt (x y : It) : Bool := decide (x.tm < y.tm) || (decide (x.tm = y.tm) && decide (x.turn < y.turn))
def le (x y : It) : Prop := lt y x = false
def cmpV (x y : It) : Int := orI (cmpI x.tm y.tm) (cmpI x.turn y.turn)
theorem lt_iff (x y : It) : lt x y = true ↔ (x.tm < y.tm ∨ (x.tm = y.tm ∧ x.turn < y.turn)) := by simp [lt]
theorem lt_not (x y : It) : lt x y = false ↔ ¬ (x.tm < y.tm ∨ (x.tm = y.tm ∧ x.turn < y.turn)) := by
  rw [← lt_iff]; simp
theorem le_iff (x y : It) : le x y ↔ ¬ (y.tm < x.tm ∨ (y.tm = x.tm ∧ y.turn < x.turn)) := lt_not y x
theorem le_tr : Tr le := by
  intro a b c h1 h2
  rw [le_iff] at *
  omega
theorem le_rf (a : It) : le a a := by rw [le_iff]; omega
theorem le_of_lt {a b : It} (h : lt a b = true) : le a b := by
  rw [lt_iff] at h
  rw [le_iff]
  omega
theorem cmpV_lt (x y : It) : decide (cmpV x y < 0) = lt x y := by
  rw [Bool.eq_iff_iff, lt_iff, decide_eq_true_eq]
  unfold cmpV orI cmpI
  by_cases h1 : x.tm < y.tm
  · simp [h1]
  · by_cases h2 : y.tm < x.tm
    · simp [h1, h2]; omega
    · have e : x.tm = y.tm := by omega
      by_cases h3 : x.turn < y.turn
      · simp [h1, h2, h3, e]
      · by_cases h4 : y.turn < x.turn
        · simp [h1, h2, h3, h4, e]
        · simp [h1, h2, h3, h4, e]

def icells (x : It) (i : Nat) : List Value := [Value.int IntKind.i64 x.key, .int .i64 x.tm, .int .i64 x.turn, .int .i64 (i : Int)]
def ptr (x : It) : Value := .pointer (some ⟨x.blk, 0, none⟩)
structure HM (w : World) (a : Nat) (M : Value) (turn : Int) (A : Option Addr) (c : Nat) (xs : List It) : Prop where
  blk : Blk w a 72 [.slice A xs.length c, M, .int .i64 turn]
  row : FSeg w 73 1 A xs.length c (xs.map ptr)
  itm : ∀ i x, xs[i]? = some x → Blk w x.blk 76 (icells x i)
  nd : (xs.map (·.blk)).Nodup
  na : ∀ x ∈ xs, x.blk ≠ a ∧ blockOf A ≠ some x.blk
  nA : blockOf A ≠ some a
/-- The blocks of the pile: its row and its items. -/
def foot (A : Option Addr) (xs : List It) (k : Nat) : Prop := blockOf A = some k ∨ ∃ x ∈ xs, x.blk = k
theorem HM.still {w w' : World} {a : Nat} {M : Value} {turn : Int} {A : Option Addr} {c : Nat} {xs : List It} {F : Nat → Prop} (h : HM w a M turn A c xs) (hs : Step F w w') (ha : ¬ F a) (hf : ∀ k, foot A xs k → ¬ F k) : HM w' a M turn A c xs :=
  ⟨h.blk.keep hs ha, h.row.keep hs (fun k hk => hf k (.inl hk)), fun i x hi => (h.itm i x hi).keep hs (hf _ (.inr ⟨x, List.mem_of_getElem? hi, rfl⟩)), h.nd, h.na, h.nA⟩
theorem HM.same {w w' : World} {a : Nat} {M : Value} {turn : Int} {A : Option Addr} {c : Nat} {xs : List It} (h : HM w a M turn A c xs) (hs : Step (fun _ => False) w w') : HM w' a M turn A c xs := h.still hs (fun h => h) (fun _ _ h => h)

set_option maxRecDepth 100000 in
set_option maxHeartbeats 1000000 in
theorem compare_calls {w : World} (x y : It) (i j : Nat) (hx : Blk w x.blk 76 (icells x i)) (hy : Blk w y.blk 76 (icells y j)) :
    Calls Try.prog 73 #[ptr x, ptr y] w fun e w' => e = .returned (.int .i64 (cmpV x y)) ∧ Step (fun _ => False) w w' := by
  unfold ptr cmpV
  obtain ⟨k1, t1, u1, b1⟩ := x
  obtain ⟨k2, t2, u2, b2⟩ := y
  have x1 := hx.cell (i := 1) rfl
  have x2 := hx.cell (i := 2) rfl
  have y1 := hy.cell (i := 1) rfl
  have y2 := hy.cell (i := 2) rfl
  have hxl := hx.lt
  have hyl := hy.lt
  simp only at x1 x2 y1 y2 hxl hyl ⊢
  clear hx hy
  have HC0 := fun (a b : Int) (w : World) => Go.Proofs.Ytgohlbljdffelaa.Cmp.compare_calls a b w
  have HC := Lib.hid HC0
  have HO0 : ∀ a b : Int, Blk ((w.alloc (.cells #[.int .i64 a, .int .i64 b] 3)).drew) w.heap.size 3 [.int .i64 a, .int .i64 b] := fun a b => (blk_new w [.int .i64 a, .int .i64 b] 3).drew
  have HO := Lib.hid HO0
  clear HC0 HO0
  go_enter Try.func73, Try.ntmps73
  go_upto_region 1 with (fail)
  go_region_held3 (fun w' => w'.cell? ⟨b1, 1, none⟩ = some (.int .i64 t1) ∧ w'.cell? ⟨b1, 2, none⟩ = some (.int .i64 u1) ∧ w'.cell? ⟨b2, 1, none⟩ = some (.int .i64 t2) ∧ w'.cell? ⟨b2, 2, none⟩ = some (.int .i64 u2)) (go_keep)
    (first | (go_at_call 70; refine (HC.out _ _ _).mono ?_; rintro e w' ⟨rfl, rfl⟩) | (go_at_call 69; refine (or_calls _ _ (HO.out _ _)).mono ?_; rintro e w' ⟨rfl, rfl⟩))
  go_wp2
  go_ret
  exact ⟨rfl, ((Step.refl _ _).alloc _).drew⟩

theorem HM.pick {w : World} {a : Nat} {M : Value} {turn : Int} {A : Option Addr} {c : Nat} {xs : List It} (h : HM w a M turn A c xs) {i : Nat} (hi : i < xs.length) : ∃ g, A = some ⟨g, 0, none⟩ ∧ w.cell? ⟨g, i, none⟩ = some (.pointer (some ⟨(lg xs i).blk, 0, none⟩)) ∧ Blk w (lg xs i).blk 76 (icells (lg xs i) i) := by
  obtain ⟨g, rfl⟩ := h.row.isSome (by omega)
  refine ⟨g, rfl, ?_, h.itm i _ (get_lg hi)⟩
  exact h.row.cell (by rw [List.getElem?_map, get_lg hi]; rfl)

set_option maxRecDepth 100000 in
set_option maxHeartbeats 1000000 in
theorem less_calls {w : World} {a : Nat} {M : Value} {turn : Int} {A : Option Addr} {c : Nat} {xs : List It} (h : HM w a M turn A c xs) {i j : Nat} (hi : i < xs.length) (hj : j < xs.length) :
    Calls Try.prog 129 #[.slice A xs.length c, .int .i64 (i : Int), .int .i64 (j : Int)] w fun e w' => e = .returned (.bool (lt (lg xs i) (lg xs j))) ∧ Step (fun _ => False) w w' := by
  obtain ⟨g, rfl, hci, hbi⟩ := h.pick hi
  obtain ⟨g', e', hcj, hbj⟩ := h.pick hj
  obtain rfl : g = g' := by simpa using e'
  rw [← cmpV_lt]
  have HC0 := fun w' (hs : Step (fun _ => False) w w') => compare_calls (w := w') (lg xs i) (lg xs j) i j (hbi.keep hs (fun h => h)) (hbj.keep hs (fun h => h))
  have hle := h.row.le
  have HK0 : ∀ w', Step (fun _ => False) w w' → w'.cell? ⟨g, i, none⟩ = some (.pointer (some ⟨(lg xs i).blk, 0, none⟩)) ∧ w'.cell? ⟨g, j, none⟩ = some (.pointer (some ⟨(lg xs j).blk, 0, none⟩)) := fun w' hs =>
    ⟨(h.row.keep hs (fun _ _ h => h)).cell (by rw [List.getElem?_map, get_lg hi]; rfl), (h.row.keep hs (fun _ _ h => h)).cell (by rw [List.getElem?_map, get_lg hj]; rfl)⟩
  clear hbi hbj h e'
  obtain ⟨v, hv⟩ : ∃ v, cmpV (lg xs i) (lg xs j) = v := ⟨_, rfl⟩
  rw [hv] at HC0 ⊢
  unfold AgInt.ptr at HC0
  generalize (lg xs i).blk = bi at *
  generalize (lg xs j).blk = bj at *
  generalize xs.length = n at *
  have i1 : (0 : Int) ≤ (i : Int) := by omega
  have i2 : (i : Int) < (n : Int) := by omega
  have j1 : (0 : Int) ≤ (j : Int) := by omega
  have j2 : (j : Int) < (n : Int) := by omega
  clear hv hi hj
  have HK := Lib.hid HK0
  have HC := Lib.hid HC0
  have hdr := (Step.refl (fun _ => False) w).drew
  clear HK0 HC0
  go_enter Try.func129, Try.ntmps129
  go_upto_region 1 with (fail)
  go_region_held3 (fun w' => w'.cell? ⟨g, i, none⟩ = some (.pointer (some ⟨bi, 0, none⟩)) ∧ w'.cell? ⟨g, j, none⟩ = some (.pointer (some ⟨bj, 0, none⟩))) (first | go_keep | exact HK.out _ hs1)
    ((go_at_call 73; refine (HC.out _ hdr).mono ?_; rintro e w1 ⟨rfl, hs0⟩; have hs1 := hdr.same hs0; clear hs0))
  go_wp2
  go_ret
  exact ⟨rfl, hs1⟩
end Go.Proofs.Ytgohlbljdffelaa.AgInt

/- agenda: Len, Swap, Push, Pop of the pile. Own work of this seat. -/
namespace Go.Proofs.Ytgohlbljdffelaa.AgInt
open Go.RowKit Go.Proofs.Ytgohlbljdffelaa.Kit Go.Proofs.Ytgohlbljdffelaa.Cmp Go.Proofs.Ytgohlbljdffelaa.HeapP
set_option linter.unusedVariables false
set_option linter.unusedSimpArgs false

theorem len_calls (A : Option Addr) (n c : Nat) (w : World) : Calls Try.prog 128 #[.slice A n c] w fun e w' => e = .returned (.int .i64 (n : Int)) ∧ w = w' := by
  go_enter Try.func128, Try.ntmps128
  go_wp2
  go_ret
  exact ⟨rfl, rfl⟩


set_option maxRecDepth 100000 in
set_option maxHeartbeats 1000000 in
theorem swap_ne {w : World} {g i j n c bi bj : Nat} (hi : i < n) (hj : j < n) (hn : i ≠ j) (hle : n ≤ c) (ci : w.cell? ⟨g, i, none⟩ = some (.pointer (some ⟨bi, 0, none⟩))) (cj : w.cell? ⟨g, j, none⟩ = some (.pointer (some ⟨bj, 0, none⟩)))
    (fi : w.frozen? ⟨g, i, none⟩ = false) (fj : w.frozen? ⟨g, j, none⟩ = false)
    (xi : ∃ v, w.cell? ⟨bi, 3, none⟩ = some v) (xj : ∃ v, w.cell? ⟨bj, 3, none⟩ = some v) (gi : w.frozen? ⟨bi, 3, none⟩ = false) (gj : w.frozen? ⟨bj, 3, none⟩ = false) (h1 : g ≠ bi) (h2 : g ≠ bj) (h3 : bi ≠ bj) :
    Calls Try.prog 130 #[.slice (some ⟨g, 0, none⟩) n c, .int .i64 (i : Int), .int .i64 (j : Int)] w fun e w' => e = .returned (.tuple #[]) ∧
      w' = ((((w.setCell ⟨g, i, none⟩ (.pointer (some ⟨bj, 0, none⟩))).setCell ⟨g, j, none⟩ (.pointer (some ⟨bi, 0, none⟩))).setCell ⟨bj, 3, none⟩ (.int .i64 (i : Int))).setCell ⟨bi, 3, none⟩ (.int .i64 (j : Int))).drew.drew := by
  have hn' : ¬ (j = i) := fun e => hn e.symm
  have i1 : (0 : Int) ≤ (i : Int) := by omega
  have i2 : (i : Int) < (n : Int) := by omega
  have j1 : (0 : Int) ≤ (j : Int) := by omega
  have j2 : (j : Int) < (n : Int) := by omega
  obtain ⟨vi, xi⟩ := xi
  obtain ⟨vj, xj⟩ := xj
  go_enter Try.func130, Try.ntmps130
  go_wp2
  go_region
  all_goals go_wp2
  all_goals go_region
  go_end0
  exact ⟨rfl, rfl⟩

set_option maxRecDepth 100000 in
set_option maxHeartbeats 1000000 in
theorem swap_eq {w : World} {g i n c bi : Nat} (hi : i < n) (hle : n ≤ c) (ci : w.cell? ⟨g, i, none⟩ = some (.pointer (some ⟨bi, 0, none⟩)))
    (fi : w.frozen? ⟨g, i, none⟩ = false) (xi : ∃ v, w.cell? ⟨bi, 3, none⟩ = some v) (gi : w.frozen? ⟨bi, 3, none⟩ = false) (h1 : g ≠ bi) :
    Calls Try.prog 130 #[.slice (some ⟨g, 0, none⟩) n c, .int .i64 (i : Int), .int .i64 (i : Int)] w fun e w' => e = .returned (.tuple #[]) ∧
      w' = ((((w.setCell ⟨g, i, none⟩ (.pointer (some ⟨bi, 0, none⟩))).setCell ⟨g, i, none⟩ (.pointer (some ⟨bi, 0, none⟩))).setCell ⟨bi, 3, none⟩ (.int .i64 (i : Int))).setCell ⟨bi, 3, none⟩ (.int .i64 (i : Int))).drew.drew := by
  have i1 : (0 : Int) ≤ (i : Int) := by omega
  have i2 : (i : Int) < (n : Int) := by omega
  obtain ⟨vi, xi⟩ := xi
  go_enter Try.func130, Try.ntmps130
  go_wp2
  go_region
  all_goals go_wp2
  all_goals go_region
  go_end0
  exact ⟨rfl, rfl⟩

theorem nd_blk {xs : List It} (h : (xs.map (·.blk)).Nodup) {i j : Nat} (hi : i < xs.length) (hj : j < xs.length) (e : (lg xs i).blk = (lg xs j).blk) : i = j := by
  rcases Nat.lt_trichotomy i j with h1 | h1 | h1
  · have := (List.pairwise_iff_getElem.1 h) i j (by simpa using hi) (by simpa using hj) h1
    simp only [List.getElem_map] at this
    rw [lg_get hi, lg_get hj] at e
    exact absurd e this
  · exact h1
  · have := (List.pairwise_iff_getElem.1 h) j i (by simpa using hj) (by simpa using hi) h1
    simp only [List.getElem_map] at this
    rw [lg_get hi, lg_get hj] at e
    exact absurd e.symm this
theorem lg_mem {xs : List It} {i : Nat} (hi : i < xs.length) : lg xs i ∈ xs := by rw [lg_get hi]; exact List.getElem_mem hi
theorem sw_map (xs : List It) (i j : Nat) : (sw xs i j).map ptr = ((xs.map ptr).set i (ptr (lg xs j))).set j (ptr (lg xs i)) := by
  unfold sw; rw [List.map_set, List.map_set]

theorem swap_calls {w : World} {a : Nat} {M : Value} {turn : Int} {A : Option Addr} {c : Nat} {xs : List It} (h : HM w a M turn A c xs) {i j : Nat} (hi : i < xs.length) (hj : j < xs.length) :
    Calls Try.prog 130 #[.slice A xs.length c, .int .i64 (i : Int), .int .i64 (j : Int)] w fun e w' => e = .returned (.tuple #[]) ∧ HM w' a M turn A c (sw xs i j) ∧ Step (foot A xs) w w' := by
  obtain ⟨g, rfl, hci, hbi⟩ := h.pick hi
  obtain ⟨g', e', hcj, hbj⟩ := h.pick hj
  obtain rfl : g = g' := by simpa using e'
  have fi := h.row.free i
  have fj := h.row.free j
  obtain ⟨ni, mi⟩ := h.na _ (lg_mem hi)
  obtain ⟨nj, mj⟩ := h.na _ (lg_mem hj)
  have hga : g ≠ a := fun e => h.nA (by rw [e]; rfl)
  have hgi : g ≠ (lg xs i).blk := fun e => mi (by rw [← e]; rfl)
  have hgj : g ≠ (lg xs j).blk := fun e => mj (by rw [← e]; rfl)
  have foot_r : ∀ k, k = g → foot (some ⟨g, 0, none⟩) xs k := fun k e => .inl (by rw [e]; rfl)
  have foot_i : ∀ k, k = (lg xs i).blk → foot (some ⟨g, 0, none⟩) xs k := fun k e => .inr ⟨_, lg_mem hi, e.symm⟩
  have foot_j : ∀ k, k = (lg xs j).blk → foot (some ⟨g, 0, none⟩) xs k := fun k e => .inr ⟨_, lg_mem hj, e.symm⟩
  by_cases hn : i = j
  · subst hn
    rw [sw_self hi]
    refine (swap_eq hi h.row.le hci fi ⟨_, hbi.cell (i := 3) rfl⟩ (hbi.free 3) hgi).mono ?_
    rintro e w' ⟨rfl, rfl⟩
    have s1 : Step (· = g) w (w.setCell ⟨g, i, none⟩ (.pointer (some ⟨(lg xs i).blk, 0, none⟩))) := step_put _ _ _ _
    have s2 : Step (· = g) _ ((w.setCell ⟨g, i, none⟩ (.pointer (some ⟨(lg xs i).blk, 0, none⟩))).setCell ⟨g, i, none⟩ (.pointer (some ⟨(lg xs i).blk, 0, none⟩))) := step_put _ _ _ _
    have s12 := s1.same s2
    have s3 := step_put ((w.setCell ⟨g, i, none⟩ (.pointer (some ⟨(lg xs i).blk, 0, none⟩))).setCell ⟨g, i, none⟩ (.pointer (some ⟨(lg xs i).blk, 0, none⟩))) (lg xs i).blk 3 (.int .i64 (i : Int))
    have s4 := step_put (((w.setCell ⟨g, i, none⟩ (.pointer (some ⟨(lg xs i).blk, 0, none⟩))).setCell ⟨g, i, none⟩ (.pointer (some ⟨(lg xs i).blk, 0, none⟩))).setCell ⟨(lg xs i).blk, 3, none⟩ (.int .i64 (i : Int))) (lg xs i).blk 3 (.int .i64 (i : Int))
    have s34 := (s3.same s4).drew.drew
    have r2 := (h.row.set i (.pointer (some ⟨(lg xs i).blk, 0, none⟩))).set i (.pointer (some ⟨(lg xs i).blk, 0, none⟩))
    have e1 : ((xs.map ptr).set i (.pointer (some ⟨(lg xs i).blk, 0, none⟩))).set i (.pointer (some ⟨(lg xs i).blk, 0, none⟩)) = xs.map ptr := by
      have := sw_map xs i i
      rw [sw_self hi] at this
      exact this.symm
    rw [e1] at r2
    refine ⟨rfl, ⟨(h.blk.keep s12 (fun e => hga e.symm)).keep s34 (fun e => ni e.symm), r2.keep s34 (fun k hk e => hgi ((Option.some.inj hk).trans e)), fun k x hk => ?_, h.nd, h.na, h.nA⟩, (s12.mono (fun k _ e => foot_r k e)).same (s34.mono (fun k _ e => foot_i k e))⟩
    have hkl := (List.getElem?_eq_some_iff.1 hk).1
    obtain rfl := lg_some hk
    have hx := (h.itm k _ hk).keep s12 (fun e => (h.na _ (lg_mem hkl)).2 (by rw [e]; rfl))
    by_cases e : k = i
    · subst e
      exact ((hx.set 3 (.int .i64 (k : Int))).set 3 (.int .i64 (k : Int))).drew.drew
    · exact hx.keep s34 (fun e' => e (nd_blk h.nd hkl hi e'))
  · have hbij : (lg xs i).blk ≠ (lg xs j).blk := fun e => hn (nd_blk h.nd hi hj e)
    refine (swap_ne hi hj hn h.row.le hci hcj fi fj ⟨_, hbi.cell (i := 3) rfl⟩ ⟨_, hbj.cell (i := 3) rfl⟩ (hbi.free 3) (hbj.free 3) hgi hgj hbij).mono ?_
    rintro e w' ⟨rfl, rfl⟩
    have s1 : Step (· = g) w (w.setCell ⟨g, i, none⟩ (.pointer (some ⟨(lg xs j).blk, 0, none⟩))) := step_put _ _ _ _
    have s2 : Step (· = g) _ ((w.setCell ⟨g, i, none⟩ (.pointer (some ⟨(lg xs j).blk, 0, none⟩))).setCell ⟨g, j, none⟩ (.pointer (some ⟨(lg xs i).blk, 0, none⟩))) := step_put _ _ _ _
    have s12 := s1.same s2
    have r2 := (h.row.set i (.pointer (some ⟨(lg xs j).blk, 0, none⟩))).set j (.pointer (some ⟨(lg xs i).blk, 0, none⟩))
    have e1 : ((xs.map ptr).set i (.pointer (some ⟨(lg xs j).blk, 0, none⟩))).set j (.pointer (some ⟨(lg xs i).blk, 0, none⟩)) = (sw xs i j).map ptr := (sw_map xs i j).symm
    rw [e1] at r2
    have b2 := h.blk.keep s12 (fun e => hga e.symm)
    have i2 : ∀ k x, xs[k]? = some x → Blk ((w.setCell ⟨g, i, none⟩ (.pointer (some ⟨(lg xs j).blk, 0, none⟩))).setCell ⟨g, j, none⟩ (.pointer (some ⟨(lg xs i).blk, 0, none⟩))) x.blk 76 (icells x k) := fun k x hk =>
      (h.itm k x hk).keep s12 (fun e => (h.na _ (List.mem_of_getElem? hk)).2 (by rw [e]; rfl))
    have f12 := s12.mono (fun k _ e => foot_r k e)
    clear s12 s1 s2 hci hcj hbi hbj fi fj
    generalize (w.setCell ⟨g, i, none⟩ (.pointer (some ⟨(lg xs j).blk, 0, none⟩))).setCell ⟨g, j, none⟩ (.pointer (some ⟨(lg xs i).blk, 0, none⟩)) = w2 at *
    have s3 := step_put w2 (lg xs j).blk 3 (.int .i64 (i : Int))
    have s4 := step_put (w2.setCell ⟨(lg xs j).blk, 3, none⟩ (.int .i64 (i : Int))) (lg xs i).blk 3 (.int .i64 (j : Int))
    have s34 : Step (fun k => k = (lg xs j).blk ∨ k = (lg xs i).blk) w2 _ := ((s3.mono (fun _ _ h => .inl h)).same (s4.mono (fun _ _ h => .inr h))).drew.drew
    refine ⟨rfl, ⟨?_, ?_, fun k x hk => ?_, ?_, fun x hx => h.na x ((sw_perm hi hj).mem_iff.1 hx), h.nA⟩, f12.same (s34.mono (fun k _ e => e.elim (foot_j k) (foot_i k)))⟩
    · rw [sw_length]
      exact b2.keep s34 (fun e => e.elim (fun e => nj e.symm) (fun e => ni e.symm))
    · rw [sw_length]
      exact r2.keep s34 (fun k hk e => e.elim (fun e => hgj ((Option.some.inj hk).trans e)) (fun e => hgi ((Option.some.inj hk).trans e)))
    · have hkl : k < xs.length := by have := (List.getElem?_eq_some_iff.1 hk).1; rwa [sw_length] at this
      rw [sw_get hi hj hkl] at hk
      obtain rfl := Option.some.inj hk
      by_cases e1 : k = i
      · subst e1
        rw [swp_l]
        have := ((i2 j _ (get_lg hj)).set 3 (.int .i64 (k : Int))).other (p := ⟨(lg xs k).blk, 3, none⟩) (fun e => hbij e.symm) (.int .i64 (j : Int))
        exact this.drew.drew
      · by_cases e2 : k = j
        · subst e2
          rw [swp_r]
          have := ((i2 i _ (get_lg hi)).other (p := ⟨(lg xs k).blk, 3, none⟩) hbij (.int .i64 (i : Int))).set 3 (.int .i64 (k : Int))
          exact this.drew.drew
        · rw [swp_o _ e1 e2]
          exact (i2 k _ (get_lg hkl)).keep s34 (fun e => e.elim (fun e => e2 (nd_blk h.nd hkl hj e)) (fun e => e1 (nd_blk h.nd hkl hi e)))
    · exact ((sw_perm hi hj).map (·.blk)).nodup_iff.2 h.nd
theorem foot_sw {A : Option Addr} {xs : List It} {i j : Nat} (hi : i < xs.length) (hj : j < xs.length) (k : Nat) : foot A (sw xs i j) k ↔ foot A xs k := by
  unfold foot
  constructor
  · rintro (h | ⟨x, hx, e⟩)
    · exact .inl h
    · exact .inr ⟨x, (sw_perm hi hj).mem_iff.1 hx, e⟩
  · rintro (h | ⟨x, hx, e⟩)
    · exact .inl h
    · exact .inr ⟨x, (sw_perm hi hj).mem_iff.2 hx, e⟩
end Go.Proofs.Ytgohlbljdffelaa.AgInt

/- agenda: Pop and Push of the pile. Own work of this seat. -/
namespace Go.Proofs.Ytgohlbljdffelaa.AgInt
open Go.RowKit Go.Proofs.Ytgohlbljdffelaa.Kit Go.Proofs.Ytgohlbljdffelaa.Cmp Go.Proofs.Ytgohlbljdffelaa.HeapP
set_option linter.unusedVariables false
set_option linter.unusedSimpArgs false

theorem HM.take {w w' : World} {a : Nat} {M : Value} {turn : Int} {A : Option Addr} {c : Nat} {xs : List It} (h : HM w a M turn A c xs) {m : Nat} (hm : m ≤ xs.length) (hs : Step (· = a) w w') (hb : Blk w' a 72 [.slice A m c, M, .int .i64 turn]) : HM w' a M turn A c (xs.take m) := by
  have hl : (xs.take m).length = m := by rw [List.length_take]; omega
  have hr := (h.row.keep hs (fun k hk e => h.nA (by rw [← e]; exact hk))).take hm
  refine ⟨by rw [hl]; exact hb, ?_, fun i x hi => ?_, ?_, fun x hx => h.na x (List.mem_of_mem_take hx), h.nA⟩
  · rw [hl, List.map_take]
    simpa using hr
  · rw [List.getElem?_take] at hi
    split at hi
    · exact (h.itm i x hi).keep hs (h.na x (List.mem_of_getElem? hi)).1
    · cases hi
  · rw [List.map_take]
    exact h.nd.sublist (List.take_sublist _ _)

set_option maxRecDepth 100000 in
set_option maxHeartbeats 1000000 in
theorem pop_calls {w : World} {a : Nat} {M : Value} {turn : Int} {A : Option Addr} {c : Nat} {xs : List It} (h : HM w a M turn A c xs) {m : Nat} (hm : xs.length = m + 1) (hmax : m ≤ 1000000) :
    Calls Try.prog 131 #[.pointer (some ⟨a, 0, none⟩)] w fun e w' => e = .returned (.iface 73 (ptr (lg xs m))) ∧ HM w' a M turn A c (xs.take m) ∧ Step (· = a) w w' := by
  obtain ⟨g, rfl, hci, hbi⟩ := h.pick (i := m) (by omega)
  have c0 := h.blk.cell (i := 0) rfl
  have f0 := h.blk.free 0
  have hle := h.row.le
  rw [hm] at c0 hle
  have H := Lib.hid h
  have HM := Lib.hid hm
  unfold ptr
  clear h hm hbi
  generalize (lg xs m).blk = bi at *
  go_enter Try.func131, Try.ntmps131
  go_wp2
  go_ret
  have hst : Step (· = a) w (w.setCell ⟨a, 0, none⟩ (.slice (some ⟨g, 0, none⟩) m c)) := step_put w a 0 _
  exact ⟨rfl, H.out.take (by have := HM.out; omega) hst (H.out.blk.set 0 _), hst⟩

/-- What is appended to. -/
theorem HM.push {w w' : World} {a : Nat} {M : Value} {turn : Int} {A A' : Option Addr} {c c' : Nat} {xs : List It} {x : It} {F : Nat → Prop} (h : HM w a M turn A c xs) (hs : Step F w w') (hF : ∀ y ∈ xs, ¬ F y.blk) (hb : Blk w' a 72 [.slice A' (xs.length + 1) c', M, .int .i64 turn])
    (hr : FSeg w' 73 1 A' (xs.length + 1) c' (xs.map ptr ++ [ptr x])) (hx : Blk w' x.blk 76 (icells x xs.length)) (hn : ∀ y ∈ xs, y.blk ≠ x.blk) (hxa : x.blk ≠ a) (hA : ∀ k, blockOf A' = some k → k ≠ a ∧ k ≠ x.blk ∧ ∀ y ∈ xs, y.blk ≠ k) : HM w' a M turn A' c' (xs ++ [x]) := by
  have hl : (xs ++ [x]).length = xs.length + 1 := by simp
  refine ⟨by rw [hl]; exact hb, by rw [hl, List.map_append]; exact hr, fun i y hi => ?_, ?_, fun y hy => ?_, fun e => (hA a e).1 rfl⟩
  · rcases Nat.lt_or_ge i xs.length with hi' | hi'
    · rw [List.getElem?_append_left hi'] at hi
      exact (h.itm i y hi).keep hs (hF y (List.mem_of_getElem? hi))
    · have hil := (List.getElem?_eq_some_iff.1 hi).1
      rw [hl] at hil
      obtain rfl : i = xs.length := by omega
      rw [List.getElem?_append_right (Nat.le_refl _), Nat.sub_self] at hi
      obtain rfl := Option.some.inj hi
      exact hx
  · rw [List.map_append]
    refine List.nodup_append.2 ⟨h.nd, by simp, fun b hb1 c hc e => ?_⟩
    obtain ⟨y, hy, rfl⟩ := List.mem_map.1 hb1
    simp only [List.map_cons, List.map_nil, List.mem_singleton] at hc
    exact hn y hy (e.trans hc)
  · rcases List.mem_append.1 hy with hy | hy
    · exact ⟨(h.na y hy).1, fun e => (hA _ e).2.2 y hy rfl⟩
    · obtain rfl : y = x := by simpa using hy
      exact ⟨hxa, fun e => (hA _ e).2.1 rfl⟩

set_option maxRecDepth 100000 in
set_option maxHeartbeats 1000000 in
theorem push_calls {w : World} {a : Nat} {M : Value} {turn : Int} {A : Option Addr} {c : Nat} {xs : List It} (h : HM w a M turn A c xs) (hmax : xs.length ≤ 100000) (x : It) {p0 : Nat} (hx : Blk w x.blk 76 (icells x p0)) (hn : ∀ y ∈ xs, y.blk ≠ x.blk) (hxa : x.blk ≠ a) (hxA : blockOf A ≠ some x.blk) :
    Calls Try.prog 132 #[.pointer (some ⟨a, 0, none⟩), .iface 73 (ptr x)] w fun e w' => e = .returned (.tuple #[]) ∧ ∃ A' c', HM w' a M turn A' c' (xs ++ [x]) ∧ Step (fun k => k = a ∨ blockOf A = some k ∨ k = x.blk) w w' ∧ (blockOf A' = blockOf A ∨ ∃ k, blockOf A' = some k ∧ w.heap.size ≤ k) := by
  obtain ⟨i0, hi0, hp⟩ : ∃ i, Try.prog.info? 73 = some i ∧ (i.zero, i.size, i.bytes) = (some (.pointer none), 1, 8) := by
    exact Option.map_eq_some_iff.1 (by kernel_rfl : (Try.prog.info? 73).map (fun i => (i.zero, i.size, i.bytes)) = some (some (.pointer none), 1, 8))
  simp only [Prod.mk.injEq] at hp
  obtain ⟨hz0, hs0, hy0⟩ := hp
  have c0 := h.blk.cell (i := 0) rfl
  have x3 := hx.cell (i := 3) rfl
  have g3 := hx.free 3
  have hal := h.blk.lt
  have hxl := hx.lt
  have H := Lib.hid h
  have HX := Lib.hid hx
  have HN := Lib.hid hn
  unfold ptr
  have hta : ∀ (b : Nat) (w : World), (Instr.typeAssert (.iface 73 (.pointer (some ⟨b, 0, none⟩))) 20 73 false).run Try.prog w = .ok (.pointer (some ⟨b, 0, none⟩)) w := fun _ _ => by kernel_rfl
  have hset : ∀ v : Nat, (icells x p0).set 3 (.int .i64 (v : Int)) = icells x v := fun v => rfl
  have HSET := Lib.hid hset
  clear h hx hn hset
  go_enter Try.func132, Try.ntmps132
  go_upto_region 2 with (fail)
  refine put_plain HX.out ?_
  intro w1 hX1 hs1
  rw [HSET.out] at hX1
  have hB1 := H.out.blk.keep hs1 (fun e => hxa e.symm)
  have hR1 := H.out.row.keep hs1 (fun k hk e => hxA (by rw [← e]; exact hk))
  have d0 := hB1.cell (i := 0) rfl
  clear c0 x3 g3
  have hsz := hs1.size
  have hst5 : Step (fun _ => False) w1 (w1.alloc (.cells #[.pointer (some ⟨x.blk, 0, none⟩)] 73)) := (Step.refl _ _).alloc _
  have hR5 := hR1.keep hst5 (fun _ _ h => h)
  have hb5 : Blk (w1.alloc (.cells #[.pointer (some ⟨x.blk, 0, none⟩)] 73)) w1.heap.size 73 [ptr x] := blk_new _ [ptr x] _
  go_wp2_with (at_builtin; refine wpList_append_flat _ rfl (.tmp 17) (.tmp 19) 70 rfl 73 i0 _ 1 8 Try.underlying70 hi0 hz0 rfl hs0 hy0 (by omega) rfl hR5 rfl (m := 1) (r := [ptr x]) rfl (fun _ => by omega) (fun v hv => by obtain rfl := List.mem_singleton.1 hv; rfl) (fun j v hj => by rw [addr_add', Nat.zero_add]; exact hb5.cell hj) (by omega) ?_; intro A2 c2 w6 hE2 hs6 hat2; have hB6 := (hB1.keep hst5 (fun h => h)).keep hs6 (fun hk => H.out.nA hk); have e0 := hB6.cell (i := 0) rfl; have e1 := hB6.free 0)
  go_end0
  have hst : Step (· = a) w6 (w6.setCell ⟨a, 0, none⟩ (.slice A2 (xs.length + 1) c2)) := step_put w6 a 0 _
  have h56 := (hst5.mono (G := fun k => blockOf A = some k) (fun _ _ h => h.elim)).same hs6
  have hall : Step (fun k => k = a ∨ blockOf A = some k ∨ k = x.blk) w (w6.setCell ⟨a, 0, none⟩ (.slice A2 (xs.length + 1) c2)) :=
    ((hs1.mono (fun _ _ h => .inr (.inr h))).same (h56.mono (fun _ _ h => .inr (.inl h)))).same (hst.mono (fun _ _ h => .inl h))
  have hne : blockOf A2 = blockOf A ∨ ∃ k, blockOf A2 = some k ∧ w.heap.size ≤ k := by
    rcases hat2 with e | ⟨k, hk, hle⟩
    · exact .inl e
    · refine .inr ⟨k, hk, ?_⟩
      have := hst5.size
      omega
  refine ⟨rfl, A2, c2, H.out.push hall (fun y hy e => ?_) (hB6.set 0 _) (hE2.keep hst (fun k hk e => ?_)) ((hX1.keep h56 hxA).keep hst hxa) HN.out hxa (fun k hk => ?_), hall, hne⟩
  · rcases e with e | e | e
    · exact (H.out.na y hy).1 e
    · exact (H.out.na y hy).2 e
    · exact HN.out y hy e
  · subst e
    rcases hne with e | ⟨j, hj, hle⟩
    · exact H.out.nA (by rw [← e]; exact hk)
    · rw [hk] at hj; obtain rfl := Option.some.inj hj; omega
  · rcases hne with e | ⟨j, hj, hle⟩
    · rw [e] at hk
      exact ⟨fun e => H.out.nA (by rw [← e]; exact hk), fun e => hxA (by rw [← e]; exact hk), fun y hy e => (H.out.na y hy).2 (by rw [e]; exact hk)⟩
    · rw [hk] at hj
      obtain rfl := Option.some.inj hj
      refine ⟨by omega, by omega, fun y hy e => ?_⟩
      obtain ⟨i, hi⟩ := List.getElem?_of_mem hy
      have := (H.out.itm i y hi).lt
      omega
end Go.Proofs.Ytgohlbljdffelaa.AgInt

/- agenda: which function the heap's methods of the pile are. Own work of this seat. -/
namespace Go.Proofs.Ytgohlbljdffelaa.AgInt
open Go.RowKit Go.Proofs.Ytgohlbljdffelaa.Kit Go.Proofs.Ytgohlbljdffelaa.Cmp Go.Proofs.Ytgohlbljdffelaa.HeapP
set_option linter.unusedVariables false
set_option linter.unusedSimpArgs false
theorem nil_less (a : Nat) (w : World) : (nilAhead 298 78 (.pointer (some ⟨a, 0, none⟩)) "Less").run Try.prog w = .ok (some false) w := by kernel_rfl
theorem nil_swap (a : Nat) (w : World) : (nilAhead 298 78 (.pointer (some ⟨a, 0, none⟩)) "Swap").run Try.prog w = .ok (some false) w := by kernel_rfl
theorem nil_len (a : Nat) (w : World) : (nilAhead 298 78 (.pointer (some ⟨a, 0, none⟩)) "Len").run Try.prog w = .ok (some false) w := by kernel_rfl
theorem nil_push (a : Nat) (w : World) : (nilAhead 298 78 (.pointer (some ⟨a, 0, none⟩)) "Push").run Try.prog w = .ok (some false) w := by kernel_rfl
theorem nil_pop (a : Nat) (w : World) : (nilAhead 298 78 (.pointer (some ⟨a, 0, none⟩)) "Pop").run Try.prog w = .ok (some false) w := by kernel_rfl
theorem load_pile {a : Nat} {w : World} {v : Value} (h : w.cell? ⟨a, 0, none⟩ = some v) : (loadVar 70 ⟨a, 0, none⟩).run Try.prog w = .ok v w := by
  have ha : (isAgg 70).run Try.prog w = .ok false w := by kernel_rfl
  unfold loadVar
  rw [Sem.run_bind, ha]
  simp [h]
theorem recv_less (a : Nat) (w : World) : (receiverAt 78 (.val (.pointer (some ⟨a, 0, none⟩))) false (some (("Less".splitOn ".").getLastD "Less"))).run Try.prog w = (loadVar 70 ⟨a, 0, none⟩).run Try.prog w := by kernel_rfl
theorem recv_swap (a : Nat) (w : World) : (receiverAt 78 (.val (.pointer (some ⟨a, 0, none⟩))) false (some (("Swap".splitOn ".").getLastD "Swap"))).run Try.prog w = (loadVar 70 ⟨a, 0, none⟩).run Try.prog w := by kernel_rfl
theorem recv_len (a : Nat) (w : World) : (receiverAt 78 (.val (.pointer (some ⟨a, 0, none⟩))) false (some (("Len".splitOn ".").getLastD "Len"))).run Try.prog w = (loadVar 70 ⟨a, 0, none⟩).run Try.prog w := by kernel_rfl
theorem meth_less0 (a : Nat) (w : World) : (method 298 78 (.pointer (some ⟨a, 0, none⟩)) "Less").run Try.prog w = (do let r ← receiverAt 78 (.val (.pointer (some ⟨a, 0, none⟩))) false (some (("Less".splitOn ".").getLastD "Less")); pure ((129 : FuncId), r) : Sem (FuncId × Value)).run Try.prog w := by kernel_rfl
theorem meth_swap0 (a : Nat) (w : World) : (method 298 78 (.pointer (some ⟨a, 0, none⟩)) "Swap").run Try.prog w = (do let r ← receiverAt 78 (.val (.pointer (some ⟨a, 0, none⟩))) false (some (("Swap".splitOn ".").getLastD "Swap")); pure ((130 : FuncId), r) : Sem (FuncId × Value)).run Try.prog w := by kernel_rfl
theorem meth_len0 (a : Nat) (w : World) : (method 298 78 (.pointer (some ⟨a, 0, none⟩)) "Len").run Try.prog w = (do let r ← receiverAt 78 (.val (.pointer (some ⟨a, 0, none⟩))) false (some (("Len".splitOn ".").getLastD "Len")); pure ((128 : FuncId), r) : Sem (FuncId × Value)).run Try.prog w := by kernel_rfl
theorem meth_less {a : Nat} {w : World} {v : Value} (h : w.cell? ⟨a, 0, none⟩ = some v) : (method 298 78 (.pointer (some ⟨a, 0, none⟩)) "Less").run Try.prog w = .ok (129, v) w := by
  rw [meth_less0, Sem.run_bind, recv_less, load_pile h]; rfl
theorem meth_swap {a : Nat} {w : World} {v : Value} (h : w.cell? ⟨a, 0, none⟩ = some v) : (method 298 78 (.pointer (some ⟨a, 0, none⟩)) "Swap").run Try.prog w = .ok (130, v) w := by
  rw [meth_swap0, Sem.run_bind, recv_swap, load_pile h]; rfl
theorem meth_len {a : Nat} {w : World} {v : Value} (h : w.cell? ⟨a, 0, none⟩ = some v) : (method 298 78 (.pointer (some ⟨a, 0, none⟩)) "Len").run Try.prog w = .ok (128, v) w := by
  rw [meth_len0, Sem.run_bind, recv_len, load_pile h]; rfl
theorem meth_push (a : Nat) (w : World) : (method 298 78 (.pointer (some ⟨a, 0, none⟩)) "Push").run Try.prog w = .ok (132, .pointer (some ⟨a, 0, none⟩)) w := by kernel_rfl
theorem meth_pop (a : Nat) (w : World) : (method 298 78 (.pointer (some ⟨a, 0, none⟩)) "Pop").run Try.prog w = .ok (131, .pointer (some ⟨a, 0, none⟩)) w := by kernel_rfl
end Go.Proofs.Ytgohlbljdffelaa.AgInt

/- agenda: up and down of the library's heap, over the pile. Own work of this seat. -/
namespace Go.Proofs.Ytgohlbljdffelaa.AgInt
open Go.RowKit Go.Proofs.Ytgohlbljdffelaa.Kit Go.Proofs.Ytgohlbljdffelaa.Cmp Go.Proofs.Ytgohlbljdffelaa.HeapP
set_option linter.unusedVariables false
set_option linter.unusedSimpArgs false

theorem HM.cell0 {w : World} {a : Nat} {M : Value} {turn : Int} {A : Option Addr} {c : Nat} {xs : List It} (h : HM w a M turn A c xs) : w.cell? ⟨a, 0, none⟩ = some (.slice A xs.length c) := h.blk.cell (i := 0) rfl

theorem foot_perm {A : Option Addr} {xs ys : List It} (h : ys.Perm xs) (k : Nat) : foot A ys k ↔ foot A xs k := by
  unfold foot
  constructor
  · rintro (e | ⟨x, hx, e⟩)
    · exact .inl e
    · exact .inr ⟨x, h.mem_iff.1 hx, e⟩
  · rintro (e | ⟨x, hx, e⟩)
    · exact .inl e
    · exact .inr ⟨x, h.mem_iff.2 hx, e⟩

set_option maxRecDepth 100000 in
set_option maxHeartbeats 1000000 in
theorem up_calls {w : World} {a : Nat} {M : Value} {turn : Int} {A : Option Addr} {c : Nat} {xs : List It} (h : HM w a M turn A c xs) {j n : Nat} (hj : j < n) (hn : n ≤ xs.length) (hmax : xs.length ≤ 1000000) (hb : Bad1 le (lg xs) j n) (hk : KidsOk le (lg xs) j n) :
    Calls Try.prog 59 #[.iface 78 (.pointer (some ⟨a, 0, none⟩)), .int .i64 (j : Int)] w fun e w' => e = .returned (.tuple #[]) ∧ ∃ xs', HM w' a M turn A c xs' ∧ xs'.Perm xs ∧ HeapG le (lg xs') n ∧ (∀ k, n ≤ k → lg xs' k = lg xs k) ∧ Step (foot A xs) w w' := by
  go_enter Try.func59, Try.ntmps59
  go_wp2
  go_loopw [1] (fun v wr => ∃ (k : Nat) (ys : List It), v = .int .i64 (k : Int) ∧ k < n ∧ HM wr a M turn A c ys ∧ ys.Perm xs ∧ Bad1 le (lg ys) k n ∧ KidsOk le (lg ys) k n ∧ (∀ k, n ≤ k → lg ys k = lg xs k) ∧ Step (foot A xs) w wr) (fun v _ => (intOf v).toNat)
  case atStart => exact ⟨j, xs, rfl, hj, h, List.Perm.refl _, hb, hk, fun _ _ => rfl, Step.refl _ _⟩
  case round =>
    obtain ⟨k, ys, rfl, hkn, hys, hpm, hbk, hkk, hrest, hst⟩ := hrel
    have hl := hpm.length_eq
    rw [← hl] at hmax hn
    have hkl : k < ys.length := by omega
    have HL := Lib.hid hl
    have HR := Lib.hid hrest
    clear hl hrest
    by_cases hk0 : k = 0
    · subst hk0
      have hfin : HeapG le (lg ys) n := stop hbk hkk (fun h => absurd h (by omega))
      have HE := Lib.hid hfin
      clear hbk hkk hb hk hj hfin
      go_wp2
      go_end0
      exact ⟨rfl, ys, hys, hpm, HE.out, HR.out, hst⟩
    · obtain ⟨p, hp⟩ : ∃ p, par k = p := ⟨_, rfl⟩
      have hpk : p < k := by rw [← hp]; exact par_lt (by omega)
      have hp1 : ((k : Int) - 1) / 2 = (p : Int) := by rw [← hp]; unfold par; omega
      have hq1 : ((p : Int) == (k : Int)) = false := by simp; omega
      have hpl : p < ys.length := by omega
      have c0 := hys.cell0
      have hm1 := meth_less c0
      have n1 := fun w => nil_less a w
      have HLE := less_calls hys hkl hpl
      have HP := Lib.hid hp
      clear hp
      cases hlt : lt (lg ys k) (lg ys p) with
      | false =>
        rw [hlt] at HLE
        have hfin : HeapG le (lg ys) n := stop hbk hkk (fun h => by rw [HP.out]; exact hlt)
        have HE := Lib.hid hfin
        clear hbk hkk hb hk hj hfin hlt
        go_wp2_with (go_at_call 129; refine HLE.mono ?_; rintro e w1 ⟨rfl, hs1⟩)
        go_end0
        exact ⟨rfl, ys, hys.same hs1, hpm, HE.out, HR.out, hst.same (hs1.mono (fun _ _ h => h.elim))⟩
      | true =>
        rw [hlt] at HLE
        have hup := up_step le_tr (by omega) hkn hbk hkk (by rw [HP.out]; exact le_of_lt hlt)
        rw [HP.out, ← lg_sw hpl hkl] at hup
        have HE := Lib.hid hup
        have hrr : ∀ q, n ≤ q → lg (sw ys p k) q = lg xs q := fun q hq => by
          rw [lg_sw hpl hkl, swp_o _ (by omega) (by omega)]
          exact HR.out q hq
        have HRR := Lib.hid hrr
        clear hrr
        have HSW := Lib.hid (fun w1 (hs1 : Step (fun _ => False) wr w1) => swap_calls (hys.same hs1) hpl hkl)
        have HC0 := Lib.hid (fun w1 (hs1 : Step (fun _ => False) wr w1) => (hys.same hs1).cell0)
        have n2 := fun w => nil_swap a w
        clear hbk hkk hb hk hj hup hlt
        go_wp2_with (first | (go_at_call 129; refine HLE.mono ?_; rintro e w1 ⟨rfl, hs1⟩; have d0 := HC0.out w1 hs1; have hm2 := meth_swap d0) | (go_at_call 130; refine (HSW.out _ hs1).mono ?_; rintro e w2 ⟨rfl, hys2, hs2⟩))
        have hs3 := hst.same ((hs1.mono (fun _ _ h => h.elim)).same (hs2.mono (fun k _ h => (foot_perm hpm k).1 h)))
        go_roundw
        case rel => exact ⟨p, sw ys p k, rfl, by omega, hys2, (sw_perm hpl hkl).trans hpm, HE.out.1, HE.out.2, HRR.out, hs3⟩
        case measure => simp [intOf]; omega
end Go.Proofs.Ytgohlbljdffelaa.AgInt

/- agenda: down of the library's heap, over the pile. Own work of this seat. -/
namespace Go.Proofs.Ytgohlbljdffelaa.AgInt
open Go.RowKit Go.Proofs.Ytgohlbljdffelaa.Kit Go.Proofs.Ytgohlbljdffelaa.Cmp Go.Proofs.Ytgohlbljdffelaa.HeapP
set_option linter.unusedVariables false
set_option linter.unusedSimpArgs false

theorem kids2 {g : Nat → It} {i n j : Nat} (h1 : j = 2 * i + 1 ∨ j = 2 * i + 2) (ha : 2 * i + 1 < n → le (g j) (g (2 * i + 1))) (hb : 2 * i + 2 < n → le (g j) (g (2 * i + 2))) : KidsOk le (fun k => if k = i then g j else g k) i n := by
  intro k k0 k1 k2
  unfold par at k2
  have hki : k ≠ i := by omega
  simp only [if_neg hki, if_pos]
  rcases (by omega : k = 2 * i + 1 ∨ k = 2 * i + 2) with rfl | rfl
  · exact ha k1
  · exact hb k1
theorem kids_stay {g : Nat → It} {i n j : Nat} (hn : le (g i) (g j)) (h : KidsOk le (fun k => if k = i then g j else g k) i n) : KidsOk le g i n := by
  intro k k0 k1 k2
  have hki : k ≠ i := by have := par_lt k0; omega
  have := h k k0 k1 k2
  simp only [if_neg hki, if_pos] at this
  exact le_tr _ _ _ hn this

set_option maxRecDepth 100000 in
set_option maxHeartbeats 4000000 in
theorem down_calls {w : World} {a : Nat} {M : Value} {turn : Int} {A : Option Addr} {c : Nat} {xs : List It} (h : HM w a M turn A c xs) {i0 n : Nat} (hi0 : i0 ≤ xs.length) (hn : n ≤ xs.length) (hmax : xs.length ≤ 1000000) (hb : Bad1 le (lg xs) i0 n) :
    Calls Try.prog 58 #[.iface 78 (.pointer (some ⟨a, 0, none⟩)), .int .i64 (i0 : Int), .int .i64 (n : Int)] w fun e w' => ∃ (b : Bool) (xs' : List It), e = .returned (.bool b) ∧ HM w' a M turn A c xs' ∧ xs'.Perm xs ∧ (∀ k, n ≤ k → lg xs' k = lg xs k) ∧ (b = true → HeapG le (lg xs') n) ∧ (b = false → xs' = xs ∧ KidsOk le (lg xs) i0 n) ∧ Step (foot A xs) w w' := by
  go_enter Try.func58, Try.ntmps58
  go_wp2
  go_loopw [7, 8, 9, 10] (fun v v8 v9 v10 wr => ∃ (i : Nat) (ys : List It), v = .int .i64 (i : Int) ∧ i0 ≤ i ∧ i ≤ xs.length ∧ HM wr a M turn A c ys ∧ ys.Perm xs ∧ Bad1 le (lg ys) i n ∧ (i0 < i → le (lg ys (par i)) (lg ys i)) ∧ (i = i0 → ys = xs) ∧ (∀ k, n ≤ k → lg ys k = lg xs k) ∧ Step (foot A xs) w wr) (fun v _ _ _ _ => xs.length + 1 - (intOf v).toNat)
  case atStart => exact ⟨i0, xs, rfl, Nat.le_refl _, hi0, h, List.Perm.refl _, hb, fun h => absurd h (by omega), fun _ => rfl, fun _ _ => rfl, Step.refl _ _⟩
  case round =>
    obtain ⟨i, ys, rfl, hii, hil, hys, hpm, hbk, hpar, hsame, hrest, hst⟩ := hrel
    have hl := hpm.length_eq
    rw [← hl] at hil hmax hn hi0
    have HL := Lib.hid hl
    obtain ⟨j1, hj1⟩ : ∃ j : Nat, j = 2 * i + 1 := ⟨_, rfl⟩
    obtain ⟨j2, hj2⟩ : ∃ j : Nat, j = 2 * i + 2 := ⟨_, rfl⟩
    have e1 : 2 * (i : Int) + 1 = (j1 : Int) := by omega
    have e2 : (j1 : Int) + 1 = (j2 : Int) := by omega
    have HR := Lib.hid hrest
    have HS := Lib.hid hsame
    have HB := Lib.hid hbk
    have HPA := Lib.hid hpar
    have H0 := Lib.hid hb
    have hi0i : (i0 : Int) ≤ (i : Int) := by omega
    -- the ways out
    have HOUT : ∀ wf, Step (foot A xs) w wf → HM wf a M turn A c ys → KidsOk le (lg ys) i n → ∃ (b : Bool) (xs' : List It), Ending.returned (.bool (decide (i0 < i))) = .returned (.bool b) ∧ HM wf a M turn A c xs' ∧ xs'.Perm xs ∧ (∀ k, n ≤ k → lg xs' k = lg xs k) ∧ (b = true → HeapG le (lg xs') n) ∧ (b = false → xs' = xs ∧ KidsOk le (lg xs) i0 n) ∧ Step (foot A xs) w wf := by
      intro wf hsf hyf hkf
      refine ⟨_, ys, rfl, hyf, hpm, hrest, fun hb => ?_, fun hb => ?_, hsf⟩
      · have hlt : i0 < i := of_decide_eq_true hb
        exact stop hbk hkf (fun _ => hpar hlt)
      · have hlt : ¬ i0 < i := of_decide_eq_false hb
        have hei : i = i0 := by omega
        have hey := hsame hei
        rw [hei, hey] at hkf
        exact ⟨hey, hkf⟩
    have HO := Lib.hid HOUT
    clear hl hrest hsame hbk hpar hb HOUT
    by_cases hA : n ≤ j1
    · have q1 : (n : Int) ≤ (j1 : Int) := by omega
      have hkv : KidsOk le (lg ys) i n := fun k k0 k1 k2 => by unfold par at k2; omega
      have HK := Lib.hid hkv
      clear hkv hj1 hj2
      go_wp2
      go_ret
      exact HO.out _ hst hys HK.out
    · have q1 : ¬ (n : Int) ≤ (j1 : Int) := by omega
      have q2 : ((j1 : Int) < 0) = False := eq_false (by omega)
      have c0 := hys.cell0
      have hm1 := meth_less c0
      have n1 := fun w => nil_less a w
      have n2 := fun w => nil_swap a w
      have HLE0 := fun w1 (hs1 : Step (fun _ => False) wr w1) (p q : Nat) (hp : p < ys.length) (hq : q < ys.length) => less_calls (hys.same hs1) hp hq
      have HLE := Lib.hid HLE0
      have HC0 := Lib.hid (fun w1 (hs1 : Step (fun _ => False) wr w1) => (hys.same hs1).cell0)
      have HSW0 := fun w1 (hs1 : Step (fun _ => False) wr w1) (p q : Nat) (hp : p < ys.length) (hq : q < ys.length) => swap_calls (hys.same hs1) hp hq
      have HSW := Lib.hid HSW0
      have HDN0 : ∀ j, (j = j1 ∨ j = j2) → j < n → lt (lg ys j) (lg ys i) = true → KidsOk le (fun k => if k = i then lg ys j else lg ys k) i n → Bad1 le (lg (sw ys i j)) j n ∧ (i0 < j → le (lg (sw ys i j) (par j)) (lg (sw ys i j) j)) := by
        intro j hj hjn hlt hkk
        have := dn_step (by omega) hjn (by unfold par; omega) HB.out (le_of_lt hlt) hkk
        rw [← lg_sw (by omega) (by omega)] at this
        exact ⟨this.1, fun h => this.2 (by omega)⟩
      have HDN := Lib.hid HDN0
      have HRR0 : ∀ j, j < n → ∀ k, n ≤ k → lg (sw ys i j) k = lg xs k := fun j hj k hk => by
        rw [lg_sw (by omega) (by omega), swp_o _ (by omega) (by omega)]
        exact HR.out k hk
      have HRR := Lib.hid HRR0
      have sr := Step.refl (fun _ => False) wr
      clear HLE0 HSW0 HDN0 HRR0
      by_cases hB : j2 < n
      · have q3 : ((j2 : Int) < (n : Int)) = True := eq_true (by omega)
        cases hlt2 : lt (lg ys j2) (lg ys j1) with
        | true =>
          have hkk : KidsOk le (fun k => if k = i then lg ys j2 else lg ys k) i n := kids2 (.inr hj2) (fun _ => by rw [← hj1]; exact le_of_lt hlt2) (fun _ => by rw [← hj2]; exact le_rf _)
          have HKK := Lib.hid hkk
          clear hkk
          cases hlt : lt (lg ys j2) (lg ys i) with
          | true =>
            have HD := Lib.hid (HDN.out j2 (by omega) (by omega) hlt HKK.out)
            have HJ1 := Lib.hid hj1
            have HJ2 := Lib.hid hj2
            have j1b : 2 * i + 1 ≤ j1 ∧ j1 ≤ 2 * i + 1 := by omega
            have j2b : 2 * i + 2 ≤ j2 ∧ j2 ≤ 2 * i + 2 := by omega
            clear hj1 hj2
            go_wp2_with (first | (go_at_call 129; refine (HLE.out _ (by assumption) _ _ (by omega) (by omega)).mono ?_; rintro e w1 ⟨rfl, hs1⟩; have hs1' : Step (fun _ => False) wr w1 := Step.same (by assumption) hs1; clear hs1; have d0 := HC0.out w1 hs1'; have hm1 := meth_less d0; have hm2 := meth_swap d0) | (go_at_call 130; refine (HSW.out _ (by assumption) _ _ (by omega) (by omega)).mono ?_; rintro e w2 ⟨rfl, hys2, hs2⟩))
            have hs3 := hst.same ((‹Step (fun _ => False) wr w1›.mono (fun _ _ h => h.elim)).same (hs2.mono (fun k _ h => (foot_perm hpm k).1 h)))
            go_roundw
            case rel => exact ⟨j2, sw ys i j2, rfl, by omega, by rw [← HL.out]; omega, hys2, (sw_perm (by omega) (by omega)).trans hpm, HD.out.1, HD.out.2, fun e => absurd e (by omega), HRR.out j2 (by omega), hs3⟩
            case measure => have := HL.out; simp [intOf]; omega
          | false =>
            have HK := Lib.hid (kids_stay hlt HKK.out)
            have HJ1 := Lib.hid hj1
            have HJ2 := Lib.hid hj2
            have j1b : 2 * i + 1 ≤ j1 ∧ j1 ≤ 2 * i + 1 := by omega
            have j2b : 2 * i + 2 ≤ j2 ∧ j2 ≤ 2 * i + 2 := by omega
            clear hj1 hj2
            go_wp2_with (first | (go_at_call 129; refine (HLE.out _ (by assumption) _ _ (by omega) (by omega)).mono ?_; rintro e w1 ⟨rfl, hs1⟩; have hs1' : Step (fun _ => False) wr w1 := Step.same (by assumption) hs1; clear hs1; have d0 := HC0.out w1 hs1'; have hm1 := meth_less d0; have hm2 := meth_swap d0) | (go_at_call 130; refine (HSW.out _ (by assumption) _ _ (by omega) (by omega)).mono ?_; rintro e w2 ⟨rfl, hys2, hs2⟩))
            go_ret
            exact HO.out _ (hst.same (‹Step (fun _ => False) wr w1›.mono (fun _ _ h => h.elim))) (hys.same ‹_›) HK.out
        | false =>
          have hkk : KidsOk le (fun k => if k = i then lg ys j1 else lg ys k) i n := kids2 (.inl hj1) (fun _ => by rw [← hj1]; exact le_rf _) (fun _ => by rw [← hj2]; exact hlt2)
          have HKK := Lib.hid hkk
          clear hkk
          cases hlt : lt (lg ys j1) (lg ys i) with
          | true =>
            have HD := Lib.hid (HDN.out j1 (by omega) (by omega) hlt HKK.out)
            have HJ1 := Lib.hid hj1
            have HJ2 := Lib.hid hj2
            have j1b : 2 * i + 1 ≤ j1 ∧ j1 ≤ 2 * i + 1 := by omega
            have j2b : 2 * i + 2 ≤ j2 ∧ j2 ≤ 2 * i + 2 := by omega
            clear hj1 hj2
            go_wp2_with (first | (go_at_call 129; refine (HLE.out _ (by assumption) _ _ (by omega) (by omega)).mono ?_; rintro e w1 ⟨rfl, hs1⟩; have hs1' : Step (fun _ => False) wr w1 := Step.same (by assumption) hs1; clear hs1; have d0 := HC0.out w1 hs1'; have hm1 := meth_less d0; have hm2 := meth_swap d0) | (go_at_call 130; refine (HSW.out _ (by assumption) _ _ (by omega) (by omega)).mono ?_; rintro e w2 ⟨rfl, hys2, hs2⟩))
            have hs3 := hst.same ((‹Step (fun _ => False) wr w1›.mono (fun _ _ h => h.elim)).same (hs2.mono (fun k _ h => (foot_perm hpm k).1 h)))
            go_roundw
            case rel => exact ⟨j1, sw ys i j1, rfl, by omega, by rw [← HL.out]; omega, hys2, (sw_perm (by omega) (by omega)).trans hpm, HD.out.1, HD.out.2, fun e => absurd e (by omega), HRR.out j1 (by omega), hs3⟩
            case measure => have := HL.out; simp [intOf]; omega
          | false =>
            have HK := Lib.hid (kids_stay hlt HKK.out)
            have HJ1 := Lib.hid hj1
            have HJ2 := Lib.hid hj2
            have j1b : 2 * i + 1 ≤ j1 ∧ j1 ≤ 2 * i + 1 := by omega
            have j2b : 2 * i + 2 ≤ j2 ∧ j2 ≤ 2 * i + 2 := by omega
            clear hj1 hj2
            go_wp2_with (first | (go_at_call 129; refine (HLE.out _ (by assumption) _ _ (by omega) (by omega)).mono ?_; rintro e w1 ⟨rfl, hs1⟩; have hs1' : Step (fun _ => False) wr w1 := Step.same (by assumption) hs1; clear hs1; have d0 := HC0.out w1 hs1'; have hm1 := meth_less d0; have hm2 := meth_swap d0) | (go_at_call 130; refine (HSW.out _ (by assumption) _ _ (by omega) (by omega)).mono ?_; rintro e w2 ⟨rfl, hys2, hs2⟩))
            go_ret
            exact HO.out _ (hst.same (‹Step (fun _ => False) wr w1›.mono (fun _ _ h => h.elim))) (hys.same ‹_›) HK.out
      · have q3 : ((j2 : Int) < (n : Int)) = False := eq_false (by omega)
        have hkk : KidsOk le (fun k => if k = i then lg ys j1 else lg ys k) i n := kids2 (.inl hj1) (fun _ => by rw [← hj1]; exact le_rf _) (fun h => absurd h (by omega))
        have HKK := Lib.hid hkk
        clear hkk
        cases hlt : lt (lg ys j1) (lg ys i) with
        | true =>
          have HD := Lib.hid (HDN.out j1 (by omega) (by omega) hlt HKK.out)
          have HJ1 := Lib.hid hj1
          have HJ2 := Lib.hid hj2
          have j1b : 2 * i + 1 ≤ j1 ∧ j1 ≤ 2 * i + 1 := by omega
          have j2b : 2 * i + 2 ≤ j2 ∧ j2 ≤ 2 * i + 2 := by omega
          clear hj1 hj2
          go_wp2_with (first | (go_at_call 129; refine (HLE.out _ (by assumption) _ _ (by omega) (by omega)).mono ?_; rintro e w1 ⟨rfl, hs1⟩; have hs1' : Step (fun _ => False) wr w1 := Step.same (by assumption) hs1; clear hs1; have d0 := HC0.out w1 hs1'; have hm1 := meth_less d0; have hm2 := meth_swap d0) | (go_at_call 130; refine (HSW.out _ (by assumption) _ _ (by omega) (by omega)).mono ?_; rintro e w2 ⟨rfl, hys2, hs2⟩))
          have hs3 := hst.same ((‹Step (fun _ => False) wr w1›.mono (fun _ _ h => h.elim)).same (hs2.mono (fun k _ h => (foot_perm hpm k).1 h)))
          go_roundw
          case rel => exact ⟨j1, sw ys i j1, rfl, by omega, by rw [← HL.out]; omega, hys2, (sw_perm (by omega) (by omega)).trans hpm, HD.out.1, HD.out.2, fun e => absurd e (by omega), HRR.out j1 (by omega), hs3⟩
          case measure => have := HL.out; simp [intOf]; omega
        | false =>
          have HK := Lib.hid (kids_stay hlt HKK.out)
          have HJ1 := Lib.hid hj1
          have HJ2 := Lib.hid hj2
          have j1b : 2 * i + 1 ≤ j1 ∧ j1 ≤ 2 * i + 1 := by omega
          have j2b : 2 * i + 2 ≤ j2 ∧ j2 ≤ 2 * i + 2 := by omega
          clear hj1 hj2
          go_wp2_with (first | (go_at_call 129; refine (HLE.out _ (by assumption) _ _ (by omega) (by omega)).mono ?_; rintro e w1 ⟨rfl, hs1⟩; have hs1' : Step (fun _ => False) wr w1 := Step.same (by assumption) hs1; clear hs1; have d0 := HC0.out w1 hs1'; have hm1 := meth_less d0; have hm2 := meth_swap d0) | (go_at_call 130; refine (HSW.out _ (by assumption) _ _ (by omega) (by omega)).mono ?_; rintro e w2 ⟨rfl, hys2, hs2⟩))
          go_ret
          exact HO.out _ (hst.same (‹Step (fun _ => False) wr w1›.mono (fun _ _ h => h.elim))) (hys.same ‹_›) HK.out
end Go.Proofs.Ytgohlbljdffelaa.AgInt

/- agenda: Fix, Push, Pop, Remove of the library's heap, over the pile. Own work of this seat. -/
namespace Go.Proofs.Ytgohlbljdffelaa.AgInt
open Go.RowKit Go.Proofs.Ytgohlbljdffelaa.Kit Go.Proofs.Ytgohlbljdffelaa.Cmp Go.Proofs.Ytgohlbljdffelaa.HeapP
set_option linter.unusedVariables false
set_option linter.unusedSimpArgs false

set_option maxRecDepth 100000 in
set_option maxHeartbeats 1000000 in
theorem fix_calls {w : World} {a : Nat} {M : Value} {turn : Int} {A : Option Addr} {c : Nat} {xs : List It} (h : HM w a M turn A c xs) {i : Nat} (hi : i < xs.length) (hmax : xs.length ≤ 1000000) (hb : Bad1 le (lg xs) i xs.length) :
    Calls Try.prog 32 #[.iface 78 (.pointer (some ⟨a, 0, none⟩)), .int .i64 (i : Int)] w fun e w' => e = .returned (.tuple #[]) ∧ ∃ xs', HM w' a M turn A c xs' ∧ xs'.Perm xs ∧ HeapG le (lg xs') xs.length ∧ Step (foot A xs) w w' := by
  have c0 := h.cell0
  have hm1 := meth_len c0
  have n1 := fun w => nil_len a w
  have HD := down_calls h (i0 := i) (n := xs.length) (by omega) (Nat.le_refl _) hmax hb
  have HU0 := fun w1 (ys : List It) (hy : HM w1 a M turn A c ys) (hp : ys = xs) (hk : KidsOk le (lg xs) i xs.length) => up_calls (hp ▸ hy) hi (Nat.le_refl _) hmax hb hk
  have HU := Lib.hid HU0
  clear h hb HU0
  go_enter Try.func32, Try.ntmps32
  go_wp2_with (first | (go_at_call 128; refine (len_calls _ _ _ _).mono ?_; rintro e w' ⟨rfl, rfl⟩) | (go_at_call 58; refine HD.mono ?_; rintro e w1 ⟨b, ys, rfl, hys, hpm, hrest, hT, hF, hs1⟩; have HT := Lib.hid hT; have HF := Lib.hid hF; have HR := Lib.hid hrest; clear hT hF hrest) | (go_at_call 59; refine (HU.out _ _ hys (HF.out (by first | assumption | simp_all)).1 (HF.out (by first | assumption | simp_all)).2).mono ?_; rintro e w2 ⟨rfl, zs, hzs, hpm2, hh2, hr2, hs2⟩))
  · go_end0
    exact ⟨rfl, zs, hzs, hpm2, hh2, hs1.same hs2⟩
  · have hb : b = true := by simp_all
    go_end0
    exact ⟨rfl, ys, hys, hpm, HT.out hb, hs1⟩

set_option maxRecDepth 100000 in
set_option maxHeartbeats 1000000 in
theorem hpush_calls {w : World} {a : Nat} {M : Value} {turn : Int} {A : Option Addr} {c : Nat} {xs : List It} (h : HM w a M turn A c xs) (hmax : xs.length ≤ 100000) (hh : HeapG le (lg xs) xs.length) (x : It) {p0 : Nat} (hx : Blk w x.blk 76 (icells x p0)) (hn : ∀ y ∈ xs, y.blk ≠ x.blk) (hxa : x.blk ≠ a) (hxA : blockOf A ≠ some x.blk) :
    Calls Try.prog 33 #[.iface 78 (.pointer (some ⟨a, 0, none⟩)), .iface 73 (ptr x)] w fun e w' => e = .returned (.tuple #[]) ∧ ∃ A' c' xs', HM w' a M turn A' c' xs' ∧ xs'.Perm (xs ++ [x]) ∧ HeapG le (lg xs') xs'.length ∧ Step (fun k => k = a ∨ foot A xs k ∨ k = x.blk) w w' ∧ (blockOf A' = blockOf A ∨ ∃ k, blockOf A' = some k ∧ w.heap.size ≤ k) := by
  have hm1 := meth_push a w
  have n1 := fun w => nil_push a w
  have n2 := fun w => nil_len a w
  have HP := push_calls h hmax x hx hn hxa hxA
  have hlx : (xs ++ [x]).length = xs.length + 1 := by simp
  have hlg : ∀ k, k < xs.length → lg (xs ++ [x]) k = lg xs k := fun k hk => by
    rw [lg_get hk, lg_get (by omega), List.getElem_append_left hk]
  have hbk := push_bad (g' := lg (xs ++ [x])) hh hlg
  rw [← hlx] at hbk
  have HBK := Lib.hid hbk
  have HLX := Lib.hid hlx
  have ecast : ((xs.length + 1 : Nat) : Int) - 1 = ((xs.length : Nat) : Int) := by omega
  have HFT := Lib.hid (fun (A' : Option Addr) (k : Nat) (hk : k < w.heap.size) (hA : blockOf A' = blockOf A ∨ ∃ k, blockOf A' = some k ∧ w.heap.size ≤ k) (hf : foot A' (xs ++ [x]) k) => (show k = a ∨ foot A xs k ∨ k = x.blk by
    rcases hf with e | ⟨y, hy, e⟩
    · rcases hA with e2 | ⟨j, e2, hj⟩
      · exact .inr (.inl (.inl (by rw [← e2]; exact e)))
      · rw [e] at e2
        obtain rfl := Option.some.inj e2
        omega
    · rcases List.mem_append.1 hy with hy | hy
      · exact .inr (.inl (.inr ⟨y, hy, e⟩))
      · obtain rfl : y = x := by simpa using hy
        exact .inr (.inr e.symm)))
  have HF1 := Lib.hid (fun (k : Nat) (hk : k = a ∨ blockOf A = some k ∨ k = x.blk) => (show k = a ∨ foot A xs k ∨ k = x.blk from hk.imp id (fun h => h.imp .inl id)))
  clear h hx hn hh hlg hbk hlx
  unfold ptr at HP ⊢
  go_enter Try.func33, Try.ntmps33
  go_wp2_with (first | (go_at_call 132; refine HP.mono ?_; rintro e w1 ⟨rfl, A1, c1, h1, hs1, hA1⟩; have d0 : w1.cell? ⟨a, 0, none⟩ = some (.slice A1 (xs.length + 1) c1) := (by have := h1.cell0; rwa [HLX.out] at this); have hm2 := meth_len d0) | (go_at_call 128; refine (len_calls _ _ _ _).mono ?_; rintro e w' ⟨rfl, rfl⟩) | (go_at_call 59; refine (up_calls h1 (j := xs.length) (by rw [HLX.out]; omega) (Nat.le_refl _) (by rw [HLX.out]; omega) HBK.out.1 HBK.out.2).mono ?_; rintro e w2 ⟨rfl, zs, hzs, hpm2, hh2, hr2, hs2⟩))
  go_end0
  refine ⟨rfl, A1, c1, zs, hzs, hpm2, by rw [hpm2.length_eq]; exact hh2, (hs1.mono (fun k _ h => HF1.out k h)).trans hs2 (fun k hk hf => HFT.out A1 k hk hA1 hf), hA1⟩
end Go.Proofs.Ytgohlbljdffelaa.AgInt

/- agenda: Pop and Remove of the library's heap, over the pile. Own work of this seat. -/
namespace Go.Proofs.Ytgohlbljdffelaa.AgInt
open Go.RowKit Go.Proofs.Ytgohlbljdffelaa.Kit Go.Proofs.Ytgohlbljdffelaa.Cmp Go.Proofs.Ytgohlbljdffelaa.HeapP
set_option linter.unusedVariables false
set_option linter.unusedSimpArgs false

theorem lg_take {ys : List It} {m k : Nat} (hk : k < m) (hm : m ≤ ys.length) : lg (ys.take m) k = lg ys k := by
  rw [lg_get (by rw [List.length_take]; omega), lg_get (by omega), List.getElem_take]
theorem take_last {ys : List It} {m : Nat} (h : ys.length = m + 1) : ys = ys.take m ++ [lg ys m] := by
  rw [lg_get (by omega), List.take_append_getElem (by omega), List.take_of_length_le (by omega)]
/-- What Pop and Remove end in: the last one goes. -/
theorem last_off {w : World} {a : Nat} {M : Value} {turn : Int} {A : Option Addr} {c : Nat} {xs zs : List It} {m i : Nat} (hl : xs.length = m + 1) (hp : zs.Perm xs) (hz : lg zs m = lg xs i) (hh : HeapG le (lg zs) m) : (lg xs i :: zs.take m).Perm xs ∧ HeapG le (lg (zs.take m)) m := by
  have hzl : zs.length = m + 1 := by rw [hp.length_eq]; exact hl
  refine ⟨?_, heap_ext hh (fun k hk => lg_take hk (by omega))⟩
  rw [← hz]
  have h1 : (lg zs m :: zs.take m).Perm (zs.take m ++ [lg zs m]) := (List.perm_append_singleton _ _).symm
  rw [← take_last hzl] at h1
  exact h1.trans hp

set_option maxRecDepth 100000 in
set_option maxHeartbeats 1000000 in
theorem hpop_calls {w : World} {a : Nat} {M : Value} {turn : Int} {A : Option Addr} {c : Nat} {xs : List It} (h : HM w a M turn A c xs) {m : Nat} (hl : xs.length = m + 1) (hmax : m ≤ 100000) (hh : HeapG le (lg xs) xs.length) :
    Calls Try.prog 35 #[.iface 78 (.pointer (some ⟨a, 0, none⟩))] w fun e w' => e = .returned (.iface 73 (ptr (lg xs 0))) ∧ ∃ ys, HM w' a M turn A c ys ∧ (lg xs 0 :: ys).Perm xs ∧ HeapG le (lg ys) ys.length ∧ (∃ p, Blk w' (lg xs 0).blk 76 (icells (lg xs 0) p)) ∧ Step (fun k => k = a ∨ foot A xs k) w w' := by
  have c0 := h.cell0
  rw [hl] at c0
  have hm1 := meth_len c0
  have hm2 := meth_swap c0
  have n1 := fun w => nil_len a w
  have n2 := fun w => nil_swap a w
  have n3 := fun w => nil_pop a w
  have hm3 := fun w => meth_pop a w
  have ecast : ((m + 1 : Nat) : Int) - 1 = ((m : Nat) : Int) := by omega
  have hlg := lg_sw (i := 0) (j := m) (xs := xs) (by omega) (by omega)
  have hbad : Bad1 le (lg (sw xs 0 m)) 0 m := by
    rw [hlg]
    rw [hl] at hh
    rcases Nat.eq_zero_or_pos m with e | e
    · subst e
      exact ⟨fun k k0 k1 => absurd k1 (by omega), fun k k0 k1 => absurd k1 (by omega)⟩
    · exact remove_bad le_tr e hh
  have hlast : lg (sw xs 0 m) m = lg xs 0 := by rw [hlg, swp_r]
  have HSW := swap_calls h (i := 0) (j := m) (by omega) (by omega)
  have hsl := sw_length xs 0 m
  have hsp := sw_perm (xs := xs) (i := 0) (j := m) (by omega) (by omega)
  rw [hl] at HSW hsl
  have HSL := Lib.hid hsl
  have HB := Lib.hid hbad
  have HD0 := Lib.hid (fun w1 (h1 : HM w1 a M turn A c (sw xs 0 m)) => down_calls h1 (i0 := 0) (n := m) (by omega) (by omega) (by omega) HB.out)
  have HL := Lib.hid hl
  have HLA := Lib.hid hlast
  have HP0 := Lib.hid (fun w1 (ys : List It) (h1 : HM w1 a M turn A c ys) (hp : ys.Perm (sw xs 0 m)) => pop_calls h1 (m := m) (by rw [hp.length_eq, HSL.out]) (by omega))
  clear h hh hlg hbad hlast hl hsl
  go_enter Try.func35, Try.ntmps35
  go_wp2_with (first | (go_at_call 128; refine (len_calls _ _ _ _).mono ?_; rintro e w' ⟨rfl, rfl⟩) | (go_at_call 130; refine HSW.mono ?_; rintro e w1 ⟨rfl, h1, hs1⟩) | (go_at_call 58; refine (HD0.out _ h1).mono ?_; rintro e w2 ⟨b, ys, rfl, hys, hpm, hrest, hT, hF, hs2⟩; have HT := Lib.hid hT; have HF := Lib.hid hF; have HR := Lib.hid hrest; clear hT hF hrest) | (go_at_call 131; refine (HP0.out _ _ hys hpm).mono ?_; rintro e w3 ⟨rfl, h3, hs3⟩))
  have hpx := hpm.trans hsp
  have hlz : lg ys m = lg xs 0 := by rw [HR.out m (Nat.le_refl _), HLA.out]
  have hyl : ys.length = m + 1 := by rw [hpx.length_eq]; exact HL.out
  have hhz : HeapG le (lg ys) m := by
    cases b with
    | true => exact HT.out rfl
    | false =>
      obtain ⟨e1, e2⟩ := HF.out rfl
      rw [e1]
      exact stop HB.out e2 (fun h => absurd h (by omega))
  obtain ⟨q1, q2⟩ := last_off (w := w) (a := a) (M := M) (turn := turn) (A := A) (c := c) HL.out hpx hlz hhz
  rw [hlz]
  go_ret
  refine ⟨rfl, ys.take m, h3, q1, by rw [List.length_take, hyl, Nat.min_eq_left (by omega)]; exact q2, ⟨m, ?_⟩, (((hs1.mono (fun _ _ h => .inr h)).same (hs2.mono (fun k _ h => .inr ((foot_perm hsp k).1 h))))).same (hs3.mono (fun _ _ h => .inl h))⟩
  have hz := hys.itm m (lg ys m) (get_lg (by omega))
  rw [hlz] at hz
  exact hz.keep hs3 (fun e => (hys.na _ (List.mem_of_getElem? (get_lg (xs := ys) (k := m) (by omega)))).1 (by rw [hlz]; exact e))

set_option maxRecDepth 100000 in
set_option maxHeartbeats 1000000 in
theorem hremove_calls {w : World} {a : Nat} {M : Value} {turn : Int} {A : Option Addr} {c : Nat} {xs : List It} (h : HM w a M turn A c xs) {m i : Nat} (hl : xs.length = m + 1) (hi : i ≤ m) (hmax : m ≤ 100000) (hh : HeapG le (lg xs) xs.length) :
    Calls Try.prog 60 #[.iface 78 (.pointer (some ⟨a, 0, none⟩)), .int .i64 (i : Int)] w fun e w' => e = .returned (.iface 73 (ptr (lg xs i))) ∧ ∃ ys, HM w' a M turn A c ys ∧ (lg xs i :: ys).Perm xs ∧ HeapG le (lg ys) ys.length ∧ Step (fun k => k = a ∨ foot A xs k) w w' := by
  have c0 := h.cell0
  rw [hl] at c0
  have hm1 := meth_len c0
  have hm2 := meth_swap c0
  have n1 := fun w => nil_len a w
  have n2 := fun w => nil_swap a w
  have n3 := fun w => nil_pop a w
  have hm3 := fun w => meth_pop a w
  have ecast : ((m + 1 : Nat) : Int) - 1 = ((m : Nat) : Int) := by omega
  have HL := Lib.hid hl
  by_cases him : i = m
  · subst him
    have q0 : ((i : Int) != (i : Int)) = false := by simp
    have HP0 := pop_calls h (m := i) hl (by omega)
    obtain ⟨q1, q2⟩ := last_off (w := w) (a := a) (M := M) (turn := turn) (A := A) (c := c) hl (List.Perm.refl xs) rfl (by rw [hl] at hh; exact shrink hh (by omega))
    have HQ := Lib.hid q2
    clear h hh hl q2
    go_enter Try.func60, Try.ntmps60
    go_wp2_with (first | (go_at_call 128; refine (len_calls _ _ _ _).mono ?_; rintro e w' ⟨rfl, rfl⟩) | (go_at_call 131; refine HP0.mono ?_; rintro e w3 ⟨rfl, h3, hs3⟩))
    go_ret
    exact ⟨rfl, xs.take i, h3, q1, by rw [List.length_take, HL.out, Nat.min_eq_left (by omega)]; exact HQ.out, hs3.mono (fun _ _ h => .inl h)⟩
  · have q0 : ((m : Int) != (i : Int)) = true := by simp; omega
    have q0' : ((m : Int) == (i : Int)) = false := by simp; omega
    have hlg := lg_sw (i := i) (j := m) (xs := xs) (by omega) (by omega)
    have hbad : Bad1 le (lg (sw xs i m)) i m := by
      rw [hlg]
      rw [hl] at hh
      exact remove_bad le_tr (by omega) hh
    have hlast : lg (sw xs i m) m = lg xs i := by rw [hlg, swp_r]
    have HSW := swap_calls h (i := i) (j := m) (by omega) (by omega)
    have hsl := sw_length xs i m
    have hsp := sw_perm (xs := xs) (i := i) (j := m) (by omega) (by omega)
    rw [hl] at HSW hsl
    have HSL := Lib.hid hsl
    have HB := Lib.hid hbad
    have HD0 := Lib.hid (fun w1 (h1 : HM w1 a M turn A c (sw xs i m)) => down_calls h1 (i0 := i) (n := m) (by omega) (by omega) (by omega) HB.out)
    have HLA := Lib.hid hlast
    have HP0 := Lib.hid (fun w1 (ys : List It) (h1 : HM w1 a M turn A c ys) (hp : ys.Perm (sw xs i m)) => pop_calls h1 (m := m) (by rw [hp.length_eq, HSL.out]) (by omega))
    have HU := Lib.hid (fun w1 (ys : List It) (hy : HM w1 a M turn A c ys) (hp : ys = sw xs i m) (hk : KidsOk le (lg (sw xs i m)) i m) => up_calls (hp ▸ hy) (j := i) (n := m) (by omega) (by omega) (by omega) HB.out hk)
    have hil : i < m := by omega
    clear h hh hlg hbad hlast hl hsl
    go_enter Try.func60, Try.ntmps60
    go_wp2_with (first | (go_at_call 128; refine (len_calls _ _ _ _).mono ?_; rintro e w' ⟨rfl, rfl⟩) | (go_at_call 130; refine HSW.mono ?_; rintro e w1 ⟨rfl, h1, hs1⟩) | (go_at_call 58; refine (HD0.out _ h1).mono ?_; rintro e w2 ⟨b, ys, rfl, hys, hpm, hrest, hT, hF, hs2⟩; have HT := Lib.hid hT; have HF := Lib.hid hF; have HR := Lib.hid hrest; clear hT hF hrest) | (go_at_call 59; refine (HU.out _ _ hys (HF.out (by first | assumption | simp_all)).1 (HF.out (by first | assumption | simp_all)).2).mono ?_; rintro e w4 ⟨rfl, zs, hzs, hpm2, hh2, hr2, hs4⟩; have HR2 := Lib.hid hr2; clear hr2) | (go_at_call 131; first | (refine (HP0.out _ _ hzs hpm2).mono ?_; rintro e w3 ⟨rfl, h3, hs3⟩) | (refine (HP0.out _ _ hys hpm).mono ?_; rintro e w3 ⟨rfl, h3, hs3⟩)))
    · have hpx := hpm2.trans hsp
      have hlz : lg zs m = lg xs i := by rw [HR2.out m (Nat.le_refl _), HLA.out]
      have hyl : zs.length = m + 1 := by rw [hpx.length_eq]; exact HL.out
      obtain ⟨q1, q2⟩ := last_off (w := w) (a := a) (M := M) (turn := turn) (A := A) (c := c) HL.out hpx hlz hh2
      rw [hlz]
      go_ret
      exact ⟨rfl, zs.take m, h3, q1, by rw [List.length_take, hyl, Nat.min_eq_left (by omega)]; exact q2, ((((hs1.mono (fun _ _ h => .inr h)).same (hs2.mono (fun k _ h => .inr ((foot_perm hsp k).1 h))))).same (hs4.mono (fun k _ h => .inr ((foot_perm hsp k).1 h)))).same (hs3.mono (fun _ _ h => .inl h))⟩
    · have hb : b = true := by simp_all
      have hhz := HT.out hb
      have hpx := hpm.trans hsp
      have hlz : lg ys m = lg xs i := by rw [HR.out m (Nat.le_refl _), HLA.out]
      have hyl : ys.length = m + 1 := by rw [hpx.length_eq]; exact HL.out
      obtain ⟨q1, q2⟩ := last_off (w := w) (a := a) (M := M) (turn := turn) (A := A) (c := c) HL.out hpx hlz hhz
      rw [hlz]
      go_ret
      exact ⟨rfl, ys.take m, h3, q1, by rw [List.length_take, hyl, Nat.min_eq_left (by omega)]; exact q2, (((hs1.mono (fun _ _ h => .inr h)).same (hs2.mono (fun k _ h => .inr ((foot_perm hsp k).1 h))))).same (hs3.mono (fun _ _ h => .inl h))⟩
end Go.Proofs.Ytgohlbljdffelaa.AgInt

/- agenda: an agenda in memory, as its sorted list; New, Len, First. Own work of this seat. -/
namespace Go.Proofs.Ytgohlbljdffelaa.AgInt
open Go.RowKit Go.Proofs.Ytgohlbljdffelaa.Kit Go.Proofs.Ytgohlbljdffelaa.Cmp Go.Proofs.Ytgohlbljdffelaa.HeapP Go.Proofs.Ytgohlbljdffelaa.AgP
set_option linter.unusedVariables false
set_option linter.unusedSimpArgs false

def KOk (k : Int) : Prop := -9223372036854775808 ≤ k ∧ k ≤ 9223372036854775807
theorem kkey {k : Int} (h : KOk k) : keyOf Try.prog 3 (Value.int IntKind.i64 k) = some (ilit k) := ikey Try.underlying3 h.1 h.2
theorem kkeyed : Go.Maps.Keyed Try.prog 3 := Go.Maps.int_keyed Try.underlying3
def proj (x : It) : Ev Int := ⟨x.key, x.tm, x.turn⟩
/-- The map's function: under each key the item that bears it. -/
def Fm (f : Lit → Option Value) (xs : List It) : Prop := ∀ k, (∀ x ∈ xs, x.key = k → f (ilit k) = some (ptr x)) ∧ ((∀ x ∈ xs, x.key ≠ k) → f (ilit k) = none)
theorem Fm.perm {f : Lit → Option Value} {xs ys : List It} (h : Fm f xs) (hp : ys.Perm xs) : Fm f ys := fun k =>
  ⟨fun x hx => (h k).1 x (hp.mem_iff.1 hx), fun hn => (h k).2 (fun x hx => hn x (hp.mem_iff.2 hx))⟩
theorem Fm.put {f : Lit → Option Value} {xs : List It} (h : Fm f xs) {x : It} (hn : ∀ y ∈ xs, y.key ≠ x.key) : Fm (putF f (ilit x.key) (ptr x)) (xs ++ [x]) := by
  intro k
  unfold putF
  by_cases e : k = x.key
  · subst e
    rw [if_pos (sameKey_self (ilit_ok _))]
    refine ⟨fun y hy hk => ?_, fun hall => absurd rfl (hall x (by simp))⟩
    rcases List.mem_append.1 hy with hy | hy
    · exact absurd hk (hn y hy)
    · obtain rfl : y = x := by simpa using hy
      rfl
  · have ek : ilit k ≠ ilit x.key := fun e' => e (ilit_inj e')
    rw [if_neg (by rw [Go.Maps.sameKey_ne ek]; simp)]
    refine ⟨fun y hy hk => ?_, fun hall => (h k).2 (fun y hy => hall y (by simp [hy]))⟩
    rcases List.mem_append.1 hy with hy | hy
    · exact (h k).1 y hy hk
    · obtain rfl : y = x := by simpa using hy
      exact absurd hk.symm e
theorem Fm.del {f : Lit → Option Value} {r : List It} {x : It} (h : Fm f (x :: r)) (hn : ∀ y ∈ r, y.key ≠ x.key) : Fm (delF f (ilit x.key)) r := by
  intro k
  unfold delF
  by_cases e : k = x.key
  · subst e
    rw [if_pos (sameKey_self (ilit_ok _))]
    exact ⟨fun y hy hk => absurd hk (hn y hy), fun _ => rfl⟩
  · have ek : ilit k ≠ ilit x.key := fun e' => e (ilit_inj e')
    rw [if_neg (by rw [Go.Maps.sameKey_ne ek]; simp)]
    refine ⟨fun y hy hk => (h k).1 y (by simp [hy]) hk, fun hall => (h k).2 (fun y hy => ?_)⟩
    rcases List.mem_cons.1 hy with rfl | hy
    · exact fun e' => e e'.symm
    · exact hall y hy
theorem Fm.nodup {f : Lit → Option Value} {xs : List It} (h : Fm f xs) (hn : (xs.map (·.blk)).Nodup) : (xs.map (·.key)).Nodup := by
  unfold List.Nodup at hn ⊢
  rw [List.pairwise_map] at hn ⊢
  refine hn.imp_of_mem fun {x y} hx hy hb e => hb ?_
  have h1 := (h y.key).1 x hx e
  have h2 := (h y.key).1 y hy rfl
  rw [h1] at h2
  unfold ptr at h2
  injection h2 with h2
  injection h2 with h2
  injection h2 with h2
  injection h2

structure AgX (w : World) (a : Nat) (A : Option Addr) (c M m n : Nat) (f : Lit → Option Value) (xs : List It) (t : Nat) : Prop where
  hm : HM w a (.map (some M)) (t : Int) A c xs
  hp : HeapG le (lg xs) xs.length
  mg : MG Try.prog 3 w M n m f
  fm : Fm f xs
  ne : M ≠ a ∧ blockOf A ≠ some M ∧ ∀ x ∈ xs, x.blk ≠ M
  kok : ∀ x ∈ xs, KOk x.key
  nt : n ≤ t
  lt : xs.length ≤ t
/-- The agenda at a, which may own the blocks of F, is L: sorted; t is how many were set. -/
def AgR (w : World) (a : Nat) (F : Nat → Prop) (L : List (Ev Int)) (t : Nat) : Prop :=
  Sorted L ∧ (∀ s ∈ L, s.turn ≤ (t : Int)) ∧ (∀ k, F k → k < w.heap.size) ∧ ∃ xs A c M m n f, AgX w a A c M m n f xs t ∧ (xs.map proj).Perm L ∧ ∀ k, k = a ∨ k = M ∨ foot A xs k → F k
theorem AgR.keep {w w' : World} {a : Nat} {F G : Nat → Prop} {L : List (Ev Int)} {t : Nat} (h : AgR w a F L t) (hs : Step G w w') (hd : ∀ k, F k → ¬ G k) : AgR w' a F L t := by
  obtain ⟨h1, h2, h3, xs, A, c, M, m, n, f, hx, hp, hF⟩ := h
  have hsz := hs.size
  refine ⟨h1, h2, fun k hk => by have := h3 k hk; omega, xs, A, c, M, m, n, f, ⟨hx.hm.still hs (hd _ (hF _ (.inl rfl))) (fun k hk => hd k (hF k (.inr (.inr hk)))), hx.hp, hx.mg.keep hs (hd _ (hF _ (.inr (.inl rfl)))), hx.fm, hx.ne, hx.kok, hx.nt, hx.lt⟩, hp, hF⟩
theorem AgR.same {w w' : World} {a : Nat} {F : Nat → Prop} {L : List (Ev Int)} {t : Nat} (h : AgR w a F L t) (hs : Step (fun _ => False) w w') : AgR w' a F L t := h.keep hs (fun _ _ h => h)
theorem AgR.lt {w : World} {a : Nat} {F : Nat → Prop} {L : List (Ev Int)} {t : Nat} (h : AgR w a F L t) {k : Nat} (hk : F k) : k < w.heap.size := h.2.2.1 k hk
theorem AgR.own {w : World} {a : Nat} {F : Nat → Prop} {L : List (Ev Int)} {t : Nat} (h : AgR w a F L t) : F a := by
  obtain ⟨h1, h2, h3, xs, A, c, M, m, n, f, hx, hp, hF⟩ := h
  exact hF a (.inl rfl)
theorem AgR.sorted {w : World} {a : Nat} {F : Nat → Prop} {L : List (Ev Int)} {t : Nat} (h : AgR w a F L t) : Sorted L := h.1
theorem AgR.nodup {w : World} {a : Nat} {F : Nat → Prop} {L : List (Ev Int)} {t : Nat} (h : AgR w a F L t) : (L.map (·.key)).Nodup := by
  obtain ⟨h1, h2, h3, xs, A, c, M, m, n, f, hx, hp, hF⟩ := h
  have := hx.fm.nodup hx.hm.nd
  have h4 := (hp.map (·.key)).nodup_iff.1 (by rw [List.map_map]; exact this)
  exact h4
theorem AgR.kok {w : World} {a : Nat} {F : Nat → Prop} {L : List (Ev Int)} {t : Nat} (h : AgR w a F L t) : ∀ s ∈ L, KOk s.key := by
  obtain ⟨h1, h2, h3, xs, A, c, M, m, n, f, hx, hp, hF⟩ := h
  intro s hs
  obtain ⟨x, hx', rfl⟩ := List.mem_map.1 (hp.mem_iff.2 hs)
  exact hx.kok x hx'
theorem AgR.len_le {w : World} {a : Nat} {F : Nat → Prop} {L : List (Ev Int)} {t : Nat} (h : AgR w a F L t) : L.length ≤ t := by
  obtain ⟨h1, h2, h3, xs, A, c, M, m, n, f, hx, hp, hF⟩ := h
  have := hp.length_eq
  rw [List.length_map] at this
  have := hx.lt
  omega
/-- The first one of the pile is the least. -/
theorem top {xs : List It} {L : List (Ev Int)} (hh : HeapG le (lg xs) xs.length) (hp : (xs.map proj).Perm L) (hs : Sorted L) {s : Ev Int} {r : List (Ev Int)} (e : L = s :: r) : xs.length = r.length + 1 ∧ proj (lg xs 0) = s := by
  subst e
  have hl := hp.length_eq
  rw [List.length_map, List.length_cons] at hl
  refine ⟨hl, ?_⟩
  cases xs with
  | nil => simp at hl
  | cons x xs =>
    have hm : ∀ y ∈ s :: r, ¬ ltE y (proj x) := by
      intro y hy
      obtain ⟨z, hz, rfl⟩ := List.mem_map.1 (hp.mem_iff.2 hy)
      obtain ⟨i, hi⟩ := List.getElem?_of_mem hz
      have hil := (List.getElem?_eq_some_iff.1 hi).1
      have h1 := heap_min le_tr le_rf hh i hil
      rw [lg_some hi, show lg (x :: xs) 0 = x from rfl, le_iff] at h1
      exact h1
    obtain ⟨L', e, _⟩ := head_least hs (by simpa using hp) hm
    injection e with e1 e2
    exact e1.symm
theorem empty {xs : List It} (hp : (xs.map proj).Perm []) : xs = [] := by
  have := hp.length_eq
  cases xs with
  | nil => rfl
  | cons x xs => simp at this

set_option maxRecDepth 100000 in
set_option maxHeartbeats 1000000 in
theorem new_calls (w : World) : Calls Try.prog 9 #[] w fun e w' => ∃ a F, e = .returned (.pointer (some ⟨a, 0, none⟩)) ∧ AgR w' a F [] 0 ∧ Step (fun _ => False) w w' ∧ ∀ k, F k → w.heap.size ≤ k := by
  have hmm := @run_makeMap Try.prog
  go_enter Try.func9, Try.ntmps9
  go_wp2
  go_ret
  refine ⟨_, fun k => k = w.heap.size ∨ k = w.heap.size + 1, rfl, ?_, ((Step.refl _ _).alloc _).alloc _, fun k hk => by omega⟩
  have hz : ∀ o : Obj, (w.alloc o).heap.size = w.heap.size + 1 := fun o => by show (w.heap.push _).size = _; simp
  have hM := (mg_new Try.prog 3 w).keep (((Step.refl (fun _ => False) (w.alloc (.map #[] 0))).alloc (.cells #[.slice none 0 0, .map (some w.heap.size), .int .i64 0] 72))) (fun h => h)
  have hB := blk_new (w.alloc (.map #[] 0)) [.slice none 0 0, .map (some w.heap.size), .int .i64 0] 72
  rw [hz] at hB
  refine ⟨List.Pairwise.nil, fun s h => by simp at h, fun k hk => ?_, [], none, 0, w.heap.size, 0, 0, fun _ => none, ⟨⟨hB, fseg_nil _ _ _, fun i x h => by simp at h, List.Pairwise.nil, fun x h => by simp at h, fun h => by cases h⟩, fun k h0 h1 => absurd h1 (by simp), hM, fun k => ⟨fun x h => by simp at h, fun _ => rfl⟩, ⟨by omega, (fun h => by cases h), fun x h => by simp at h⟩, fun x h => by simp at h, Nat.le_refl _, Nat.le_refl _⟩, List.Perm.refl _, fun k hk => ?_⟩
  · have h2 : ((w.alloc (.map #[] 0)).alloc (.cells #[.slice none 0 0, .map (some w.heap.size), .int .i64 0] 72)).heap.size = w.heap.size + 2 := by show ((w.heap.push _).push _).size = _; simp
    rw [h2]
    omega
  · rcases hk with e | e | e | ⟨x, h, _⟩
    · exact .inr e
    · exact .inl e
    · cases e
    · simp at h

def firstL (L : List (Ev Int)) : Int × Bool := match L with | [] => (0, false) | s :: _ => (s.tm, true)
theorem first_calls {w : World} {a : Nat} {F : Nat → Prop} {L : List (Ev Int)} {t : Nat} (h : AgR w a F L t) (ht : t ≤ 1000000) : Calls Try.prog 34 #[.pointer (some ⟨a, 0, none⟩)] w fun e w' => e = .returned (.tuple #[.int .i64 (firstL L).1, .bool (firstL L).2]) ∧ w = w' := by
  obtain ⟨h1, h2, h3, xs, A, c, M, m, n, f, hx, hp, hF⟩ := h
  have c0 := hx.hm.cell0
  have hlt := hx.lt
  cases L with
  | nil =>
    obtain rfl := empty hp
    simp only [List.length_nil] at c0
    unfold firstL
    go_enter Try.func34, Try.ntmps34
    go_wp2
    go_ret2
    exact ⟨rfl, rfl⟩
  | cons s r =>
    obtain ⟨hl, e⟩ := top hx.hp hp h1 rfl
    obtain ⟨g, rfl, hci, hbi⟩ := hx.hm.pick (i := 0) (by omega)
    have d1 := hbi.cell (i := 1) rfl
    have hle := hx.hm.row.le
    have q0 : ((xs.length : Int) == 0) = false := by rw [beq_eq_false_iff_ne]; omega
    have q1 : (0 : Int) < (xs.length : Int) := by omega
    have es : (lg xs 0).tm = s.tm := by rw [← e]; rfl
    rw [es] at d1
    unfold firstL
    simp only
    clear e es hl hx hp hF h1 h2 h3 hbi
    generalize xs.length = q at *
    generalize (lg xs 0).blk = b at *
    go_enter Try.func34, Try.ntmps34
    go_wp2
    go_ret2
    exact ⟨rfl, rfl⟩
end Go.Proofs.Ytgohlbljdffelaa.AgInt

/- agenda: Pop, At, Drop. Own work of this seat. -/
namespace Go.Proofs.Ytgohlbljdffelaa.AgInt
open Go.RowKit Go.Proofs.Ytgohlbljdffelaa.Kit Go.Proofs.Ytgohlbljdffelaa.Cmp Go.Proofs.Ytgohlbljdffelaa.HeapP Go.Proofs.Ytgohlbljdffelaa.AgP
set_option linter.unusedVariables false
set_option linter.unusedSimpArgs false

/-- What is popped, up to a tick. -/
def popL (L : List (Ev Int)) (now : Int) : List (Ev Int) := match L with | [] => [] | s :: r => if now < s.tm then s :: r else r
def popV (L : List (Ev Int)) (now : Int) : Int × Int × Bool := match L with | [] => ((0 : Int), 0, false) | s :: r => if now < s.tm then ((0 : Int), 0, false) else (s.key, s.tm, true)

/-- An agenda out of its parts, behind a step that took one item out. -/
theorem AgX.off {w w' : World} {a : Nat} {A : Option Addr} {c M m n m' : Nat} {f : Lit → Option Value} {xs ys : List It} {x : It} {t : Nat} (h : AgX w a A c M m n f xs t) (hy : HM w' a (.map (some M)) (t : Int) A c ys) (hp : (x :: ys).Perm xs) (hh : HeapG le (lg ys) ys.length) (hm : MG Try.prog 3 w' M n m' (delF f (ilit x.key))) : AgX w' a A c M m' n (delF f (ilit x.key)) ys t := by
  have hsub : ∀ y ∈ ys, y ∈ xs := fun y hy => hp.mem_iff.1 (List.mem_cons_of_mem _ hy)
  have hfm := h.fm.perm hp
  have hnd : ((x :: ys).map (·.key)).Nodup := hfm.nodup ((hp.map (·.blk)).nodup_iff.2 h.hm.nd)
  rw [List.map_cons, List.nodup_cons] at hnd
  refine ⟨hy, hh, hm, hfm.del (fun y hy e => hnd.1 (e ▸ List.mem_map_of_mem hy)), ⟨h.ne.1, h.ne.2.1, fun y hy => h.ne.2.2 y (hsub y hy)⟩, fun y hy => h.kok y (hsub y hy), h.nt, ?_⟩
  have := hp.length_eq
  rw [List.length_cons] at this
  have := h.lt
  omega

set_option maxRecDepth 100000 in
set_option maxHeartbeats 1000000 in
theorem apop_calls {w : World} {a : Nat} {F : Nat → Prop} {L : List (Ev Int)} {t : Nat} (h : AgR w a F L t) (ht : t ≤ 100000) (now : Int) :
    Calls Try.prog 11 #[.pointer (some ⟨a, 0, none⟩), .int .i64 now] w fun e w' => e = .returned (.tuple #[Value.int IntKind.i64 (popV L now).1, .int .i64 (popV L now).2.1, .bool (popV L now).2.2]) ∧ AgR w' a F (popL L now) t ∧ Step F w w' := by
  have HF := first_calls h (by omega)
  obtain ⟨h1, h2, h3, xs, A, c, M, m, n, f, hx, hp, hF⟩ := id h
  cases L with
  | nil =>
    unfold firstL at HF
    unfold popV popL
    simp only at HF ⊢
    clear hx hp hF h1 h2 h3
    go_enter Try.func11, Try.ntmps11
    go_wp2_with (go_at_call 34; refine HF.mono ?_; rintro e w1 ⟨rfl, rfl⟩)
    go_ret3
    exact ⟨rfl, h, Step.refl _ _⟩
  | cons s r =>
    unfold firstL at HF
    unfold popV popL
    simp only at HF ⊢
    by_cases hnow : now < s.tm
    · simp only [if_pos hnow]
      clear hx hp hF h1 h2 h3
      go_enter Try.func11, Try.ntmps11
      go_wp2_with (go_at_call 34; refine HF.mono ?_; rintro e w1 ⟨rfl, rfl⟩)
      go_ret3
      exact ⟨rfl, h, Step.refl _ _⟩
    · simp only [if_neg hnow]
      obtain ⟨hl, es⟩ := top hx.hp hp h1 rfl
      have HP := hpop_calls hx.hm (m := r.length) hl (by have := hx.lt; omega) hx.hp
      have hta : ∀ (b : Nat) (w : World), (Instr.typeAssert (.iface 73 (.pointer (some ⟨b, 0, none⟩))) 20 73 false).run Try.prog w = .ok (.pointer (some ⟨b, 0, none⟩)) w := fun _ _ => by kernel_rfl
      have hk : (lg xs 0).key = s.key := by rw [← es]; rfl
      have htm : (lg xs 0).tm = s.tm := by rw [← es]; rfl
      have hmem : lg xs 0 ∈ xs := lg_mem (by omega)
      have hkk := kkey (hx.kok _ hmem)
      have hfa := hF a (.inl rfl)
      have hff : ∀ k, k = a ∨ foot A xs k → F k := fun k hk => hF k (hk.imp id .inr)
      have H := Lib.hid hx
      have HPM := Lib.hid hp
      have hMf : ∀ k, (k = a ∨ foot A xs k) → k ≠ M := by
        rintro k (e | e | ⟨x, hx', e⟩) rfl
        · exact hx.ne.1 e
        · exact hx.ne.2.1 e
        · exact hx.ne.2.2 x hx' e
      have hMF := hF M (.inr (.inl rfl))
      have HREST := Lib.hid (⟨h2, h3, hF⟩ : (∀ q ∈ s :: r, q.turn ≤ (t : Int)) ∧ (∀ k, F k → k < w.heap.size) ∧ ∀ k, k = a ∨ k = M ∨ foot A xs k → F k)
      have HH1 := Lib.hid h1
      have HES := Lib.hid es
      rw [← htm] at hnow
      rw [← hk, ← htm]
      unfold ptr at HP
      rw [← htm] at HF
      clear h hx hp hF h1 h2 h3 hk htm hl es
      go_enter Try.func11, Try.ntmps11
      go_upto_region 5 with (first | (go_at_call 34; refine HF.mono ?_; rintro e w1 ⟨rfl, rfl⟩) | (go_at_call 35; refine HP.mono ?_; rintro e w2 ⟨rfl, ys, hys, hpy, hhy, ⟨p, hbx⟩, hs2⟩))
      have hM2 := H.out.mg.keep hs2 (fun e => hMf M e rfl)
      have c1 := hys.blk.cell (i := 1) rfl
      have d0 := hbx.cell (i := 0) rfl
      have d1 := hbx.cell (i := 1) rfl
      go_still_tail 8, (by kernel_rfl)
      go_wp2_with (refine wpList_mg_drop rfl (.tmp 32) (.tmp 36) 68 rfl (hM2.keep ((Step.refl (fun _ => False) _).drew) (fun h => h)) kkeyed Try.underlying68 (ilit_ok _) hkk rfl rfl ?_; intro w3 hM3 hs3)
      have s23 : Step (· = M) w2 w3 := ((Step.refl (· = M) w2).drew).same hs3
      have hb3 := hbx.keep s23 (fun e => H.out.ne.2.2 _ hmem e)
      have e0 := hb3.cell (i := 0) rfl
      have e1 := hb3.cell (i := 1) rfl
      have hfin := H.out.off (hys.still s23 (fun e => H.out.ne.1 e.symm) (fun k hk e => hMf k (.inr (by
        rcases hk with hk | ⟨y, hy, hk⟩
        · exact .inl hk
        · exact .inr ⟨y, hpy.mem_iff.1 (List.mem_cons_of_mem _ hy), hk⟩)) e)) hpy hhy hM3
      have HFIN := Lib.hid hfin
      have HPY := Lib.hid hpy
      clear c1 d0 d1 hfin hpy
      go_quiet (fail)
      go_wp2
      go_ret3
      have hpys : (ys.map proj).Perm r := by
        have q1 := HPY.out.map proj
        rw [List.map_cons, HES.out] at q1
        exact (List.perm_cons _).1 (q1.trans HPM.out)
      have hst : Step F w w3 := (hs2.mono (fun k _ h => hff k h)).same (s23.mono (fun k _ e => e ▸ hMF))
      have hsz := hst.size
      obtain ⟨r2, r3, r4⟩ := HREST.out
      have hok : AgR w3 a F r t := ⟨(List.pairwise_cons.1 HH1.out).2, fun q hq => r2 q (List.mem_cons_of_mem _ hq), fun k hk => by have := r3 k hk; omega, ys, A, c, M, _, n, _, HFIN.out, hpys, fun k hk => by
        rcases hk with e | e | e | ⟨y, hy, e⟩
        · exact r4 k (.inl e)
        · exact r4 k (.inr (.inl e))
        · exact r4 k (.inr (.inr (.inl e)))
        · exact r4 k (.inr (.inr (.inr ⟨y, HPY.out.mem_iff.1 (List.mem_cons_of_mem _ hy), e⟩)))⟩
      exact ⟨rfl, hok.same ((Step.refl _ _).drewN _), hst.drewN _⟩

/-- The item that bears a key. -/
theorem find_it {xs : List It} {L : List (Ev Int)} (hp : (xs.map proj).Perm L) (hk : (L.map (·.key)).Nodup) (k : Int) :
    (atL L k = none ∧ (∀ x ∈ xs, x.key ≠ k) ∧ ∀ s ∈ L, s.key ≠ k) ∨ ∃ (i : Nat) (x : It), xs[i]? = some x ∧ x.key = k ∧ atL L k = some (proj x) := by
  by_cases h : ∃ x ∈ xs, x.key = k
  · obtain ⟨x, hx, hxk⟩ := h
    obtain ⟨i, hi⟩ := List.getElem?_of_mem hx
    refine .inr ⟨i, x, hi, hxk, ?_⟩
    have hm : proj x ∈ L := hp.mem_iff.1 (List.mem_map_of_mem hx)
    cases hf : atL L k with
    | none =>
      have := List.find?_eq_none.1 hf (proj x) hm
      exact absurd (show (proj x).key = k from hxk) (by simpa using this)
    | some s =>
      have h1 := List.find?_some hf
      have h2 := List.mem_of_find?_eq_some hf
      simp only [decide_eq_true_eq] at h1
      obtain ⟨i1, e1⟩ := List.getElem?_of_mem h2
      obtain ⟨i2, e2⟩ := List.getElem?_of_mem hm
      have l1 := (List.getElem?_eq_some_iff.1 e1).1
      have l2 := (List.getElem?_eq_some_iff.1 e2).1
      have : i1 = i2 := by
        have g1 : (L.map (·.key))[i1]? = some k := by rw [List.getElem?_map, e1]; exact congrArg some h1
        have g2 : (L.map (·.key))[i2]? = some k := by rw [List.getElem?_map, e2]; exact congrArg some hxk
        have l1' : i1 < (L.map (·.key)).length := by simpa using l1
        have l2' : i2 < (L.map (·.key)).length := by simpa using l2
        rw [List.getElem?_eq_getElem l1'] at g1
        rw [List.getElem?_eq_getElem l2'] at g2
        have g := (Option.some.inj g1).trans (Option.some.inj g2).symm
        rcases Nat.lt_trichotomy i1 i2 with h | h | h
        · exact absurd g ((List.pairwise_iff_getElem.1 hk) i1 i2 l1' l2' h)
        · exact h
        · exact absurd g.symm ((List.pairwise_iff_getElem.1 hk) i2 i1 l2' l1' h)
      subst this
      rw [e1] at e2
      exact congrArg some (Option.some.inj e2)
  · have hn : ∀ x ∈ xs, x.key ≠ k := fun x hx e => h ⟨x, hx, e⟩
    have hL : ∀ s ∈ L, s.key ≠ k := fun s hs => by
      obtain ⟨x, hx, rfl⟩ := List.mem_map.1 (hp.mem_iff.2 hs)
      exact hn x hx
    exact .inl ⟨List.find?_eq_none.2 (fun s hs => by simpa using hL s hs), hn, hL⟩

theorem zptr (w : World) : (zeroValue 73).run Try.prog w = .ok (.pointer none) w := by kernel_rfl
def atV (L : List (Ev Int)) (k : Int) : Int × Bool := match atL L k with | none => (0, false) | some s => (s.tm, true)
end Go.Proofs.Ytgohlbljdffelaa.AgInt

/- agenda: Drop and Set. Own work of this seat. -/
namespace Go.Proofs.Ytgohlbljdffelaa.AgInt
open Go.RowKit Go.Proofs.Ytgohlbljdffelaa.Kit Go.Proofs.Ytgohlbljdffelaa.Cmp Go.Proofs.Ytgohlbljdffelaa.HeapP Go.Proofs.Ytgohlbljdffelaa.AgP
set_option linter.unusedVariables false
set_option linter.unusedSimpArgs false

set_option maxRecDepth 100000 in
set_option maxHeartbeats 1000000 in
theorem drop_calls {w : World} {a : Nat} {F : Nat → Prop} {L : List (Ev Int)} {t : Nat} (h : AgR w a F L t) (ht : t ≤ 100000) {k : Int} (hk : KOk k) :
    Calls Try.prog 37 #[.pointer (some ⟨a, 0, none⟩), Value.int IntKind.i64 k] w fun e w' => e = .returned (.bool (atL L k).isSome) ∧ AgR w' a F (dropL L k) t ∧ Step F w w' := by
  have hnd := h.nodup
  obtain ⟨h1, h2, h3, xs, A, c, M, m, n, f, hx, hp, hF⟩ := id h
  have c1 := hx.hm.blk.cell (i := 1) rfl
  have hlook := hx.mg.look_ok kkeyed Try.underlying68 (zptr w) (ilit_ok k) (kkey hk)
  rcases find_it hp hnd k with ⟨e1, e2, e3⟩ | ⟨i, x, hi, hxk, e1⟩
  · rw [e1, drop_none e3]
    rw [(hx.fm k).2 e2] at hlook
    simp only [Option.getD_none, Option.isSome_none] at hlook ⊢
    clear hx hp hF h1 h2 h3 e1 e2 e3 hnd
    go_enter Try.func37, Try.ntmps37
    go_wp2
    go_ret
    exact ⟨rfl, h, Step.refl _ _⟩
  · rw [e1]
    rw [(hx.fm k).1 x (List.mem_of_getElem? hi) hxk] at hlook
    simp only [Option.getD_some, Option.isSome_some] at hlook ⊢
    have hil := (List.getElem?_eq_some_iff.1 hi).1
    have hbx := hx.hm.itm i x hi
    have d3 := hbx.cell (i := 3) rfl
    have hxlen := hx.lt
    obtain ⟨q, hq⟩ : ∃ q, xs.length = q + 1 := ⟨xs.length - 1, by omega⟩
    have HP := fun w' (hs : Step (fun _ => False) w w') => hremove_calls (hx.hm.same hs) (m := q) (i := i) hq (by omega) (by omega) hx.hp
    have hMf : ∀ k, (k = a ∨ foot A xs k) → k ≠ M := by
      rintro k (e | e | ⟨x, hx', e⟩) rfl
      · exact hx.ne.1 e
      · exact hx.ne.2.1 e
      · exact hx.ne.2.2 x hx' e
    have hMF := hF M (.inr (.inl rfl))
    have hff : ∀ k, k = a ∨ foot A xs k → F k := fun k hk => hF k (hk.imp id .inr)
    have hlx : lg xs i = x := lg_some hi
    rw [hlx] at HP
    have H := Lib.hid hx
    have HPM := Lib.hid hp
    have HREST := Lib.hid (⟨h1, h2, h3, hF⟩ : Sorted L ∧ (∀ q ∈ L, q.turn ≤ (t : Int)) ∧ (∀ k, F k → k < w.heap.size) ∧ ∀ k, k = a ∨ k = M ∨ foot A xs k → F k)
    have HND := Lib.hid hnd
    have hkk := kkey hk
    have HXK := Lib.hid hxk
    unfold ptr at hlook HP
    have HPH := Lib.hid HP
    clear h hx hp hF h1 h2 h3 e1 hnd hi hxk hq hlx hbx HP
    go_enter Try.func37, Try.ntmps37
    go_upto_region 3 with (fail)
    go_still_tail 8, (by kernel_rfl)
    go_upto_region 4 with (go_at_call 60; refine (HPH.out _ (Step.refl _ _).drew).mono ?_; rintro e w2 ⟨rfl, ys, hys, hpy, hhy, hs2'⟩; have hs2 : Step (fun k => k = a ∨ foot A xs k) w w2 := (Step.refl _ _).drew.same hs2'; have c2 := hys.blk.cell (i := 1) rfl)
    have hM2 := H.out.mg.keep hs2 (fun e => hMf M e rfl)
    go_wp2_with (refine wpList_mg_drop rfl (.tmp 29) (.tmp 30) 68 rfl hM2 kkeyed Try.underlying68 (ilit_ok _) hkk rfl rfl ?_; intro w3 hM3 hs3)
    rw [← HXK.out] at hM3
    have hfin := H.out.off (hys.still hs3 (fun e => H.out.ne.1 e.symm) (fun k hk e => hMf k (.inr (by
        rcases hk with hk | ⟨y, hy, hk⟩
        · exact .inl hk
        · exact .inr ⟨y, hpy.mem_iff.1 (List.mem_cons_of_mem _ hy), hk⟩)) e)) hpy hhy hM3
    go_ret
    have hpys : (ys.map proj).Perm (dropL L k) := by
      have q1 := (hpy.map proj).trans HPM.out
      rw [List.map_cons] at q1
      have q2 := perm_drop HND.out q1
      rwa [show (proj x).key = k from HXK.out] at q2
    have hst : Step F w w3 := (hs2.mono (fun k _ h => hff k h)).same (hs3.mono (fun k _ e => e ▸ hMF))
    have hsz := hst.size
    obtain ⟨r1, r2, r3, r4⟩ := HREST.out
    exact ⟨rfl, ⟨sorted_drop r1 k, fun q hq => r2 q (mem_drop.1 hq).1, fun k hk => by have := r3 k hk; omega, ys, A, c, M, _, n, _, hfin, hpys, fun k hk => by
      rcases hk with e | e | e | ⟨y, hy, e⟩
      · exact r4 k (.inl e)
      · exact r4 k (.inr (.inl e))
      · exact r4 k (.inr (.inr (.inl e)))
      · exact r4 k (.inr (.inr (.inr ⟨y, hpy.mem_iff.1 (List.mem_cons_of_mem _ hy), e⟩)))⟩, hst⟩

/-- One item of the pile is another one, in its block. -/
theorem HM.upd {w w' : World} {a : Nat} {M : Value} {turn turn' : Int} {A : Option Addr} {c : Nat} {xs : List It} {i : Nat} {x y : It} (h : HM w a M turn A c xs) (hi : xs[i]? = some x) (hb : y.blk = x.blk) (hs : Step (fun k => k = a ∨ k = x.blk) w w') (ha : Blk w' a 72 [.slice A xs.length c, M, .int .i64 turn']) (hy : Blk w' x.blk 76 (icells y i)) : HM w' a M turn' A c (xs.set i y) := by
  have hil := (List.getElem?_eq_some_iff.1 hi).1
  have hmb : (xs.set i y).map (·.blk) = xs.map (·.blk) := by
    rw [List.map_set]
    apply List.ext_getElem?
    intro j
    rw [List.getElem?_set]
    by_cases e : i = j
    · subst e
      rw [if_pos rfl, List.getElem?_map, hi]
      simp [hil, hb]
    · rw [if_neg e]
  have hmp : (xs.set i y).map ptr = xs.map ptr := by
    have e1 : (fun z : It => ptr z) = (fun b : Nat => Value.pointer (some ⟨b, 0, none⟩)) ∘ (·.blk) := rfl
    have e2 : xs.map ptr = (xs.map (·.blk)).map (fun b : Nat => Value.pointer (some ⟨b, 0, none⟩)) := by rw [List.map_map]; rfl
    have e3 : (xs.set i y).map ptr = ((xs.set i y).map (·.blk)).map (fun b : Nat => Value.pointer (some ⟨b, 0, none⟩)) := by rw [List.map_map]; rfl
    rw [e2, e3, hmb]
  have hxn := h.na x (List.mem_of_getElem? hi)
  refine ⟨by rw [List.length_set]; exact ha, ?_, fun j z hj => ?_, by rw [hmb]; exact h.nd, fun z hz => ?_, h.nA⟩
  · rw [hmp, List.length_set]
    exact h.row.keep hs (fun k hk e => e.elim (fun e => h.nA (by rw [← e]; exact hk)) (fun e => hxn.2 (by rw [← e]; exact hk)))
  · rw [List.getElem?_set] at hj
    by_cases e : i = j
    · subst e
      rw [if_pos rfl, if_pos hil] at hj
      obtain rfl := Option.some.inj hj
      rw [hb]
      exact hy
    · rw [if_neg e] at hj
      have hjl := (List.getElem?_eq_some_iff.1 hj).1
      refine (h.itm j z hj).keep hs (fun e' => e'.elim (h.na z (List.mem_of_getElem? hj)).1 (fun e' => e ?_))
      have := nd_blk h.nd hjl hil (by rw [lg_some hj, lg_some hi]; exact e')
      exact this.symm
  · rcases List.mem_or_eq_of_mem_set hz with hz | rfl
    · exact h.na z hz
    · rw [hb]; exact hxn
theorem Fm.upd {f : Lit → Option Value} {xs : List It} (h : Fm f xs) {i : Nat} {x y : It} (hi : xs[i]? = some x) (hb : y.blk = x.blk) (hk : y.key = x.key) : Fm f (xs.set i y) := by
  have hil := (List.getElem?_eq_some_iff.1 hi).1
  intro k
  refine ⟨fun z hz hzk => ?_, fun hall => (h k).2 (fun z hz => ?_)⟩
  · rcases List.mem_or_eq_of_mem_set hz with hz | rfl
    · exact (h k).1 z hz hzk
    · have := (h k).1 x (List.mem_of_getElem? hi) (hk ▸ hzk)
      rw [this]
      unfold ptr
      rw [hb]
  · obtain ⟨j, hj⟩ := List.getElem?_of_mem hz
    by_cases e : i = j
    · subst e
      rw [hi] at hj
      obtain rfl := Option.some.inj hj
      have := hall y (List.mem_of_getElem? (i := i) (by rw [List.getElem?_set_self hil]))
      rwa [hk] at this
    · exact hall z (List.mem_of_getElem? (i := j) (by rw [List.getElem?_set_ne e]; exact hj))
theorem perm_set_at {xs : List It} {i : Nat} {x y : It} (hi : xs[i]? = some x) : ∃ r, (x :: r).Perm xs ∧ (y :: r).Perm (xs.set i y) := by
  obtain ⟨hil, e⟩ := List.getElem?_eq_some_iff.1 hi
  refine ⟨xs.take i ++ xs.drop (i + 1), ?_, ?_⟩
  · have h1 : xs = xs.take i ++ x :: xs.drop (i + 1) := by rw [← e, ← List.drop_eq_getElem_cons hil, List.take_append_drop]
    exact (List.perm_middle.symm).trans (List.Perm.of_eq h1.symm)
  · have h1 : xs.set i y = xs.take i ++ y :: xs.drop (i + 1) := List.set_eq_take_append_cons_drop ▸ (by rw [if_pos hil])
    exact (List.perm_middle.symm).trans (List.Perm.of_eq h1.symm)
end Go.Proofs.Ytgohlbljdffelaa.AgInt

/- agenda: Set. Own work of this seat. -/
namespace Go.Proofs.Ytgohlbljdffelaa.AgInt
open Go.RowKit Go.Proofs.Ytgohlbljdffelaa.Kit Go.Proofs.Ytgohlbljdffelaa.Cmp Go.Proofs.Ytgohlbljdffelaa.HeapP Go.Proofs.Ytgohlbljdffelaa.AgP
set_option linter.unusedVariables false
set_option linter.unusedSimpArgs false

/-- A tick as it counts. -/
def clipT (at_ : Int) : Int := max 0 (min at_ 1099511627776)

theorem set_old {w w' : World} {a : Nat} {F : Nat → Prop} {L : List (Ev Int)} {t : Nat} {xs ys : List It} {A : Option Addr} {c M m n : Nat} {f : Lit → Option Value} {i : Nat} {x : It} {k : Int} {v : Int}
    (hx : AgX w a A c M m n f xs t) (hs : Sorted L) (h2 : ∀ s ∈ L, s.turn ≤ (t : Int)) (h3 : ∀ k, F k → k < w.heap.size) (hp : (xs.map proj).Perm L) (hF : ∀ k, k = a ∨ k = M ∨ foot A xs k → F k) (hi : xs[i]? = some x) (hxk : x.key = k) (hnd : (L.map (·.key)).Nodup)
    (hys : HM w' a (.map (some M)) ((t + 1 : Nat) : Int) A c ys) (hpy : ys.Perm (xs.set i ⟨k, v, ((t + 1 : Nat) : Int), x.blk⟩)) (hh : HeapG le (lg ys) ys.length) (hst : Step (fun k => k = a ∨ foot A xs k) w w') : AgR w' a F (setL L k v ((t + 1 : Nat) : Int)) (t + 1) ∧ Step F w w' := by
  have hil := (List.getElem?_eq_some_iff.1 hi).1
  have hFs : Step F w w' := hst.mono (fun k _ hk => hF k (hk.imp id .inr))
  have hsz := hst.size
  have hmem : ∀ y ∈ ys, y.blk = x.blk ∨ y ∈ xs := fun y hy => by
    rcases List.mem_or_eq_of_mem_set (hpy.mem_iff.1 hy) with h | rfl
    · exact .inr h
    · exact .inl rfl
  have hfoot : ∀ k, foot A ys k → foot A xs k := by
    rintro k (e | ⟨y, hy, e⟩)
    · exact .inl e
    · rcases hmem y hy with h | h
      · exact .inr ⟨x, List.mem_of_getElem? hi, h ▸ e⟩
      · exact .inr ⟨y, h, e⟩
  refine ⟨⟨sorted_set hs k v (fun s hs' => by have := h2 s hs'; omega), fun s hs' => ?_, fun k hk => by have := h3 k hk; omega, ys, A, c, M, m, n, f, ⟨hys, hh, hx.mg.keep hst ?_, (hx.fm.upd (y := ⟨k, v, ((t + 1 : Nat) : Int), x.blk⟩) hi rfl hxk.symm).perm hpy, ⟨hx.ne.1, hx.ne.2.1, fun y hy => ?_⟩, fun y hy => ?_, by have := hx.nt; omega, ?_⟩, ?_, fun k hk => hF k (hk.imp id (Or.imp id (hfoot k)))⟩, hFs⟩
  · rcases mem_set.1 hs' with rfl | ⟨h, _⟩
    · exact Int.le_refl _
    · have := h2 s h; omega
  · rintro (e | e | ⟨y, hy, e⟩)
    · exact hx.ne.1 e
    · exact hx.ne.2.1 e
    · exact hx.ne.2.2 y hy e
  · rcases hmem y hy with h | h
    · rw [h]; exact hx.ne.2.2 x (List.mem_of_getElem? hi)
    · exact hx.ne.2.2 y h
  · rcases List.mem_or_eq_of_mem_set (hpy.mem_iff.1 hy) with h | rfl
    · exact hx.kok y h
    · show KOk k
      rw [← hxk]
      exact hx.kok x (List.mem_of_getElem? hi)
  · rw [hpy.length_eq, List.length_set]
    have := hx.lt
    omega
  · obtain ⟨r, r1, r2⟩ := perm_set_at (y := (⟨k, v, ((t + 1 : Nat) : Int), x.blk⟩ : It)) hi
    have q1 := (r1.map proj).trans hp
    rw [List.map_cons] at q1
    have q2 := perm_drop hnd q1
    rw [show (proj x).key = k from hxk] at q2
    have q3 := (hpy.map proj).trans (r2.symm.map proj)
    rw [List.map_cons] at q3
    exact q3.trans (((List.perm_cons _).2 q2).trans (perm_set L k v _).symm)

theorem set_new {w w' : World} {a : Nat} {F : Nat → Prop} {L : List (Ev Int)} {t : Nat} {xs ys : List It} {A A' : Option Addr} {c c' M m n m' b : Nat} {f : Lit → Option Value} {k : Int} {v : Int}
    (hx : AgX w a A c M m n f xs t) (hs : Sorted L) (h2 : ∀ s ∈ L, s.turn ≤ (t : Int)) (h3 : ∀ k, F k → k < w.heap.size) (hp : (xs.map proj).Perm L) (hF : ∀ k, k = a ∨ k = M ∨ foot A xs k → F k) (hk : KOk k) (hn : ∀ x ∈ xs, x.key ≠ k) (hnL : ∀ s ∈ L, s.key ≠ k)
    (hb0 : w.heap.size ≤ b) (hb1 : b < w'.heap.size)
    (hys : HM w' a (.map (some M)) ((t + 1 : Nat) : Int) A' c' ys) (hpy : ys.Perm (xs ++ [⟨k, v, ((t + 1 : Nat) : Int), b⟩])) (hh : HeapG le (lg ys) ys.length) (hmg : MG Try.prog 3 w' M (n + 1) m' (putF f (ilit k) (.pointer (some ⟨b, 0, none⟩))))
    (hA : blockOf A' = blockOf A ∨ ∃ j, blockOf A' = some j ∧ w.heap.size ≤ j) (hst : Step (fun j => j = a ∨ j = M ∨ foot A xs j) w w') : ∃ F', AgR w' a F' (setL L k v ((t + 1 : Nat) : Int)) (t + 1) ∧ Step F w w' ∧ ∀ j, F' j → F j ∨ w.heap.size ≤ j := by
  have hFs : Step F w w' := hst.mono (fun k _ hk => hF k hk)
  have hsz := hst.size
  have hlen := hpy.length_eq
  rw [List.length_append, List.length_singleton] at hlen
  have hml : M < w.heap.size := hx.mg.lt
  have hmem : ∀ y ∈ ys, y = ⟨k, v, ((t + 1 : Nat) : Int), b⟩ ∨ y ∈ xs := fun y hy => by
    rcases List.mem_append.1 (hpy.mem_iff.1 hy) with h | h
    · exact .inr h
    · exact .inl (by simpa using h)
  refine ⟨fun j => F j ∨ (w.heap.size ≤ j ∧ j < w'.heap.size), ⟨sorted_set hs k v (fun s hs' => by have := h2 s hs'; omega), fun s hs' => ?_, fun j hj => ?_, ys, A', c', M, m', n + 1, putF f (ilit k) (.pointer (some ⟨b, 0, none⟩)), ⟨hys, hh, hmg, (hx.fm.put (x := (⟨k, v, ((t + 1 : Nat) : Int), b⟩ : It)) hn).perm hpy, ⟨hx.ne.1, ?_, fun y hy => ?_⟩, fun y hy => ?_, by have := hx.nt; omega, ?_⟩, ?_, fun j hj => ?_⟩, hFs, fun j hj => hj.imp id And.left⟩
  · rcases mem_set.1 hs' with rfl | ⟨h, _⟩
    · exact Int.le_refl _
    · have := h2 s h; omega
  · rcases hj with h | h
    · have := h3 j h; omega
    · omega
  · rcases hA with e | ⟨j, e, hj⟩
    · rw [e]; exact hx.ne.2.1
    · rw [e]
      intro e'
      obtain rfl := Option.some.inj e'
      omega
  · rcases hmem y hy with rfl | h
    · show b ≠ M; omega
    · exact hx.ne.2.2 y h
  · rcases hmem y hy with rfl | h
    · exact hk
    · exact hx.kok y h
  · have := hx.lt; omega
  · have q1 := hpy.map proj
    rw [List.map_append] at q1
    have q2 : (xs.map proj ++ [(⟨k, v, ((t + 1 : Nat) : Int)⟩ : Ev Int)]).Perm ((⟨k, v, ((t + 1 : Nat) : Int)⟩ : Ev Int) :: L) := (List.perm_append_singleton _ _).trans ((List.perm_cons _).2 hp)
    have q3 := perm_set L k v ((t + 1 : Nat) : Int)
    rw [drop_none hnL] at q3
    exact (q1.trans q2).trans q3.symm
  · rcases hj with e | e | e | ⟨y, hy, e⟩
    · exact .inl (hF j (.inl e))
    · exact .inl (hF j (.inr (.inl e)))
    · rcases hA with e' | ⟨j', e', hj'⟩
      · exact .inl (hF j (.inr (.inr (.inl (by rw [← e']; exact e)))))
      · rw [e] at e'
        obtain rfl := Option.some.inj e'
        exact .inr ⟨hj', hys.row.lt e⟩
    · rcases hmem y hy with rfl | h
      · exact .inr ⟨by rw [← e]; exact hb0, by rw [← e]; exact hb1⟩
      · exact .inl (hF j (.inr (.inr (.inr ⟨y, h, e⟩))))

theorem HM.turned {w w' : World} {a : Nat} {M : Value} {turn turn' : Int} {A : Option Addr} {c : Nat} {xs : List It} (h : HM w a M turn A c xs) (hs : Step (· = a) w w') (hb : Blk w' a 72 [.slice A xs.length c, M, .int .i64 turn']) : HM w' a M turn' A c xs :=
  ⟨hb, h.row.keep hs (fun k hk e => h.nA (by rw [← e]; exact hk)), fun i x hi => (h.itm i x hi).keep hs (h.na x (List.mem_of_getElem? hi)).1, h.nd, h.na, h.nA⟩

set_option maxRecDepth 100000 in
set_option maxHeartbeats 1000000 in
theorem set_calls {w : World} {a : Nat} {F : Nat → Prop} {L : List (Ev Int)} {t : Nat} (h : AgR w a F L t) (ht : t ≤ 90000) {k : Int} (hk : KOk k) (v0 : Int) :
    Calls Try.prog 10 #[.pointer (some ⟨a, 0, none⟩), Value.int IntKind.i64 k, .int .i64 v0] w fun e w' => e = .returned (.tuple #[]) ∧ ∃ F', AgR w' a F' (setL L k (clipT v0) ((t + 1 : Nat) : Int)) (t + 1) ∧ Step F w w' ∧ ∀ j, F' j → F j ∨ w.heap.size ≤ j := by
  have hnd := h.nodup
  obtain ⟨h1, h2, h3, xs, A, c, M, m, n, f, hx, hp, hF⟩ := id h
  have hBa := hx.hm.blk
  have c2 := hBa.cell (i := 2) rfl
  have f2 := hBa.free 2
  have hal := hBa.lt
  have hclip : (if (0 : Int) < (if (1099511627776 : Int) < v0 then 1099511627776 else v0) then (if (1099511627776 : Int) < v0 then 1099511627776 else v0) else 0) = clipT v0 := by
    unfold clipT
    by_cases h1 : (1099511627776 : Int) < v0
    · simp only [if_pos h1]; rw [if_pos (by omega)]; omega
    · simp only [if_neg h1]
      by_cases h2 : 0 < v0
      · rw [if_pos h2]; omega
      · rw [if_neg h2]; omega
  obtain ⟨u, hu⟩ : ∃ u, t + 1 = u := ⟨_, rfl⟩
  have ecast : ((t : Nat) : Int) + 1 = (u : Int) := by omega
  have hlt := hx.lt
  have hnt := hx.nt
  have hMa := hx.ne.1
  rcases find_it hp hnd k with ⟨e1, e2, e3⟩ | ⟨i, x, hi, hxk, e1⟩
  · have HX := Lib.hid hx
    have HLK := Lib.hid (fun w1 (hs : Step (· = a) w w1) => (by
      have := (hx.mg.keep hs hMa).look_ok kkeyed Try.underlying68 (zptr w1) (ilit_ok k) (kkey hk)
      rw [(hx.fm k).2 e2] at this
      exact this : (Instr.lookup 68 (.map (some M)) (Value.int IntKind.i64 k) true).run Try.prog w1 = .ok (.tuple #[.pointer none, .bool false]) w1))
    have HBA := Lib.hid hBa
    have HFIN := Lib.hid (fun w' ys A' c' m' b hb0 hb1 (hys : HM w' a (.map (some M)) ((t + 1 : Nat) : Int) A' c' ys) hpy hh hmg hA hst => set_new (v := clipT v0) (w' := w') (ys := ys) (b := b) (m' := m') hx h1 h2 h3 hp hF hk e2 e3 hb0 hb1 hys hpy hh hmg hA hst)
    rw [hu] at HFIN ⊢
    have HU := Lib.hid hu
    have hkk := kkey hk
    have hcs : ∀ b : Nat, icells (⟨k, clipT v0, (u : Int), b⟩ : It) 0 = [Value.int IntKind.i64 k, .int .i64 (clipT v0), .int .i64 (u : Int), .int .i64 0] := fun _ => rfl
    have HCS := Lib.hid hcs
    clear h hx hp hF h1 h2 h3 e1 e2 e3 hnd hBa hu hcs
    go_enter Try.func10, Try.ntmps10
    go_upto_region 2 with (fail)
    refine put_plain HBA.out ?_
    intro w1 hB1 hs1
    have d1 := hB1.cell (i := 1) rfl
    have d2 := hB1.cell (i := 2) rfl
    have hlook := HLK.out w1 hs1
    have hsz1 := hs1.size
    clear c2 f2
    go_upto_region 7 with (fail)
    all_goals
      refine alloc_next (cs := [Value.int IntKind.i64 k, .int .i64 (clipT v0), .int .i64 (u : Int), .int .i64 0]) ?_
      intro w2 hN2 hs2
      rw [← HCS.out w1.heap.size] at hN2
      have hH1 := HX.out.hm.turned (turn' := (u : Int)) hs1 hB1
      have hH2 := hH1.same hs2
      have hM2 := (HX.out.mg.keep hs1 hMa).keep hs2 (fun h => h)
      have d1' := hH2.blk.cell (i := 1) rfl
      have hMl := HX.out.mg.lt
      have hfl : ∀ y ∈ xs, y.blk < w.heap.size := fun y hy => by
        obtain ⟨j, hj⟩ := List.getElem?_of_mem hy
        exact (HX.out.hm.itm j y hj).lt
      have hAl : ∀ j, blockOf A = some j → j < w.heap.size := fun j hj => HX.out.hm.row.lt hj
      have hxb : ∀ y ∈ xs, y.blk ≠ w1.heap.size := fun y hy => by have := hfl y hy; omega
      have hxA : blockOf A ≠ some w1.heap.size := fun e => by have := hAl _ e; omega
      have hxa : w1.heap.size ≠ a := by omega
      have hxM : w1.heap.size ≠ M := by omega
      have HPU := Lib.hid (fun w3 (hs3 : Step (· = M) w2 w3) => hpush_calls (hH2.still hs3 (fun e => HX.out.ne.1 e.symm) (fun j hj e => by
        rcases hj with hj | ⟨y, hy, hj⟩
        · exact HX.out.ne.2.1 (e ▸ hj)
        · exact HX.out.ne.2.2 y hy (hj.trans e))) (by omega) HX.out.hp ⟨k, clipT v0, (u : Int), w1.heap.size⟩ (hN2.keep hs3 hxM) hxb hxa hxA)
      have HM2 := Lib.hid hM2
      have HS12 := Lib.hid (hs1.same (hs2.mono (fun _ _ h => h.elim)))
      have hsz2 := hN2.lt
      have hne : n ≤ 1000000 := by omega
      have HHM : w1.heap.size = w1.heap.size := rfl
      generalize hbn : w1.heap.size = b at *
      have HBN := Lib.hid hbn
      clear hbn HHM d1 d2 hlook hM2 hH1 hH2 hN2 hfl hAl
      unfold ptr at HPU
      go_wp2_with (first | (go_at_call 33; refine (HPU.out _ hs3).mono ?_; rintro e w4 ⟨rfl, A', c', ys, hys, hpy, hhy, hs4, hA'⟩) | (refine wpList_mg_put rfl (.tmp 60) (.tmp 61) (.tmp 62) 68 rfl HM2.out kkeyed Try.underlying68 hne (val := .pointer (some ⟨b, 0, none⟩)) (ilit_ok k) hkk rfl rfl rfl ?_; intro w3 hM3 hs3; have d3 := hs3.size))
      all_goals
        have hsz2' := HS12.out.size
        have hsz4 := hs4.size
        have hall : Step (fun j => j = a ∨ j = M ∨ foot A xs j) w w4 :=
          ((HS12.out.mono (fun _ _ h => .inl h)).same (hs3.mono (fun _ _ h => .inr (.inl h)))).trans hs4 (fun j hj h => by
            rcases h with h | h | h
            · exact .inl h
            · exact .inr (.inr h)
            · omega)
        obtain ⟨F', r1, r2, r3⟩ := HFIN.out w4 ys A' c' _ b hsz1 (by omega) hys hpy hhy (hM3.keep hs4 (fun h => by
            rcases h with h | (h | ⟨y, hy, h⟩) | h
            · exact HX.out.ne.1 h
            · exact HX.out.ne.2.1 h
            · exact HX.out.ne.2.2 y hy h
            · exact hxM h.symm)) (hA'.imp id (fun ⟨j, h1, h2⟩ => ⟨j, h1, by omega⟩)) hall
        go_end0
        exact ⟨rfl, F', r1, r2, r3⟩
  · have hil := (List.getElem?_eq_some_iff.1 hi).1
    have hxn := hx.hm.na x (List.mem_of_getElem? hi)
    have HX := Lib.hid hx
    have HLK := Lib.hid (fun w1 (hs : Step (· = a) w w1) => (by
      have := (hx.mg.keep hs hMa).look_ok kkeyed Try.underlying68 (zptr w1) (ilit_ok k) (kkey hk)
      rw [(hx.fm k).1 x (List.mem_of_getElem? hi) hxk] at this
      exact this : (Instr.lookup 68 (.map (some M)) (Value.int IntKind.i64 k) true).run Try.prog w1 = .ok (.tuple #[.pointer (some ⟨x.blk, 0, none⟩), .bool true]) w1))
    have HBX := Lib.hid (hx.hm.itm i x hi)
    have HBA := Lib.hid hBa
    have HFIN := Lib.hid (fun w' ys (hys : HM w' a (.map (some M)) ((t + 1 : Nat) : Int) A c ys) hpy hh hst => set_old (v := clipT v0) (w' := w') (ys := ys) hx h1 h2 h3 hp hF hi hxk hnd hys hpy hh hst)
    rw [hu] at HFIN ⊢
    have HHP := Lib.hid hx.hp
    have HI := Lib.hid hi
    have hfx : foot A xs x.blk := .inr ⟨x, List.mem_of_getElem? hi, rfl⟩
    have HXK := Lib.hid hxk
    have HU := Lib.hid hu
    clear h hx hp hF h1 h2 h3 e1 hnd hi hxk hBa hu
    go_enter Try.func10, Try.ntmps10
    go_upto_region 2 with (fail)
    refine put_plain HBA.out ?_
    intro w1 hB1 hs1
    have d1 := hB1.cell (i := 1) rfl
    have d2 := hB1.cell (i := 2) rfl
    have hlook := HLK.out w1 hs1
    have hX1 := HBX.out.keep hs1 hxn.1
    have x1 := hX1.cell (i := 1) rfl
    have g1 := hX1.free 1
    have x2 := hX1.cell (i := 2) rfl
    have g2 := hX1.free 2
    clear c2 f2
    go_upto_region 5 with (fail)
    refine put_plain (w := w1.setCell ⟨x.blk, 1, none⟩ (.int .i64 (clipT v0))) (hX1.set 1 (.int .i64 (clipT v0))) ?_
    intro w2 hX2 hs2'
    have hs2 : Step (· = x.blk) w1 w2 := (step_put w1 x.blk 1 (.int .i64 (clipT v0))).same hs2'
    have hB2 := hB1.keep hs2 (fun e => hxn.1 e.symm)
    have hs12 : Step (fun k => k = a ∨ k = x.blk) w w2 := (hs1.mono (fun _ _ h => .inl h)).same (hs2.mono (fun _ _ h => .inr h))
    have hHM := HX.out.hm.upd (y := (⟨k, clipT v0, (u : Int), x.blk⟩ : It)) (turn' := (u : Int)) HI.out rfl hs12 hB2 (by have := HXK.out; rw [← this]; exact hX2)
    have hbad : Bad1 le (lg (xs.set i ⟨k, clipT v0, (u : Int), x.blk⟩)) i (xs.set i ⟨k, clipT v0, (u : Int), x.blk⟩).length := by
      rw [List.length_set]
      refine fix_bad le_tr HHP.out (fun j hj => ?_)
      unfold lg
      rw [List.getD_eq_getElem?_getD, List.getElem?_set_ne (fun e => hj e.symm), ← List.getD_eq_getElem?_getD]
    have hFX := fun w3 (hs : Step (fun _ => False) w2 w3) => fix_calls (hHM.same hs) (i := i) (by rw [List.length_set]; exact hil) (by rw [List.length_set]; omega) hbad
    have HFX := Lib.hid hFX
    have hft : ∀ j, foot A (xs.set i ⟨k, clipT v0, (u : Int), x.blk⟩) j → foot A xs j := by
      rintro j (e | ⟨y, hy, e⟩)
      · exact .inl e
      · rcases List.mem_or_eq_of_mem_set hy with h | rfl
        · exact .inr ⟨y, h, e⟩
        · exact .inr ⟨x, List.mem_of_getElem? HI.out, e⟩
    have HFT := Lib.hid hft
    have x3 := hX2.cell (i := 3) rfl
    clear x1 g1 x2 g2 hbad hFX hft hlook d1 d2 hHM
    go_still_tail 8, (by kernel_rfl)
    go_wp2_with (go_at_call 32; refine (HFX.out _ (Step.refl _ _).drew).mono ?_; rintro e w4 ⟨rfl, ys, hys, hpy, hhy, hs4⟩)
    all_goals
      obtain ⟨r1, r2⟩ := HFIN.out w4 ys hys hpy (by rw [hpy.length_eq]; exact hhy) ((hs12.mono (fun k _ h => h.imp id (fun h => h ▸ hfx))).same (((Step.refl _ _).drew).same (hs4.mono (fun k _ h => .inr (HFT.out k h)))))
      refine bodyPost_ret (results_none rfl _ _ _) rfl ?_
      exact ⟨rfl, F, r1, r2, fun j hj => .inl hj⟩
end Go.Proofs.Ytgohlbljdffelaa.AgInt

/- agenda: Len (where the seat has it). Own work of this seat. -/
namespace Go.Proofs.Ytgohlbljdffelaa.AgInt
open Go.RowKit Go.Proofs.Ytgohlbljdffelaa.Kit Go.Proofs.Ytgohlbljdffelaa.Cmp Go.Proofs.Ytgohlbljdffelaa.HeapP Go.Proofs.Ytgohlbljdffelaa.AgP
set_option linter.unusedVariables false
set_option linter.unusedSimpArgs false

theorem alen_calls {w : World} {a : Nat} {F : Nat → Prop} {L : List (Ev Int)} {t : Nat} (h : AgR w a F L t) : Calls Try.prog 12 #[.pointer (some ⟨a, 0, none⟩)] w fun e w' => e = .returned (.int .i64 (L.length : Int)) ∧ w = w' := by
  obtain ⟨h1, h2, h3, xs, A, c, M, m, n, f, hx, hp, hF⟩ := h
  have c0 := hx.hm.cell0
  have hl := hp.length_eq
  rw [List.length_map] at hl
  rw [hl] at c0
  clear hl
  go_enter Try.func12, Try.ntmps12
  go_wp2
  go_ret
  exact ⟨rfl, rfl⟩

end Go.Proofs.Ytgohlbljdffelaa.AgInt

/- law 20: awake. Own work of this seat. -/
namespace Go.Proofs.Ytgohlbljdffelaa.Ord
open Go.RowKit Go.Proofs.Ytgohlbljdffelaa.Kit Go.Proofs.Ytgohlbljdffelaa.AgP
set_option linter.unusedVariables false
set_option linter.unusedSimpArgs false

def ka : ByteArray := ⟨#[97]⟩
def kb : ByteArray := ⟨#[98]⟩
theorem l3 : setL (setL (setL [] ka (AgStr.clipT 5) ((0 + 1 : Nat) : Int)) kb (AgStr.clipT 3) ((0 + 1 + 1 : Nat) : Int)) ka (AgStr.clipT 2) ((0 + 1 + 1 + 1 : Nat) : Int) = [⟨ka, 2, 3⟩, ⟨kb, 3, 2⟩] := by kernel_rfl
set_option maxRecDepth 100000 in
set_option maxHeartbeats 1000000 in
theorem awake_calls (w : World) : Calls Try.prog 8 #[] w fun e w' => e = .returned (.bool true) ∧ Step (fun _ => False) w w' := by
  have H1 := AgStr.new_calls w
  have hka : AgStr.KOk ka := by unfold AgStr.KOk; decide
  have hkb : AgStr.KOk kb := by unfold AgStr.KOk; decide
  go_enter Try.func8, Try.ntmps8
  go_upto_region 4 with (go_at_call 21; refine H1.mono ?_; rintro e w1 ⟨a, F1, rfl, hA1, hs1, hF1⟩)
  have S1 := AgStr.set_calls hA1 (by omega) hka 5
  have hall1 : Step (fun k => w.heap.size ≤ k) w w1 := hs1.mono (fun _ _ h => h.elim)
  go_upto_region 5 with (go_at_call 29; refine S1.mono ?_; rintro e w2 ⟨rfl, F2, hA2, hs2, hF2⟩)
  have S2 := AgStr.set_calls hA2 (by omega) hkb 3
  go_upto_region 6 with (go_at_call 29; refine S2.mono ?_; rintro e w3 ⟨rfl, F3, hA3, hs3, hF3⟩)
  have S3 := AgStr.set_calls hA3 (by omega) hka 2
  go_upto_region 7 with (go_at_call 29; refine S3.mono ?_; rintro e w4 ⟨rfl, F4, hA4, hs4, hF4⟩)
  rw [l3] at hA4
  have P4 := AgStr.apop_calls hA4 (by omega) 9
  have e1 : AgStr.popV [⟨ka, 2, 3⟩, ⟨kb, 3, 2⟩] 9 = (ka, 2, true) := rfl
  have e2 : AgStr.popL [⟨ka, 2, 3⟩, ⟨kb, 3, 2⟩] 9 = [⟨kb, 3, 2⟩] := rfl
  rw [e1, e2] at P4
  clear S1 S2 S3 H1 e1 e2
  unfold ka at P4
  have hst : Step (fun k => w.heap.size ≤ k) w w4 := by
    have z1 := hs1.size
    have z2 := hs2.size
    have z3 := hs3.size
    have f2 : ∀ k, F2 k → w.heap.size ≤ k := fun k hk => (hF2 k hk).elim (hF1 k) (fun h => by omega)
    have f3 : ∀ k, F3 k → w.heap.size ≤ k := fun k hk => (hF3 k hk).elim (f2 k) (fun h => by omega)
    exact ((hall1.same (hs2.mono (fun j _ h => hF1 j h))).same (hs3.mono (fun j _ h => f2 j h))).same (hs4.mono (fun j _ h => f3 j h))
  have f4 : ∀ k, F4 k → w.heap.size ≤ k := by
    have z1 := hs1.size
    have z2 := hs2.size
    have z3 := hs3.size
    have f2 : ∀ k, F2 k → w.heap.size ≤ k := fun k hk => (hF2 k hk).elim (hF1 k) (fun h => by omega)
    have f3 : ∀ k, F3 k → w.heap.size ≤ k := fun k hk => (hF3 k hk).elim (f2 k) (fun h => by omega)
    exact fun k hk => (hF4 k hk).elim (f3 k) (fun h => by omega)
  go_wp2_with (first | (go_at_call 30; refine P4.mono ?_; rintro e w5 ⟨rfl, hA5, hs5⟩; have hN := AgStr.alen_calls hA5) | (go_at_call 31; refine hN.mono ?_; rintro e w6 ⟨rfl, rfl⟩))
  go_ret
  refine ⟨by simp, ?_⟩
  have hz := hst.same (hs5.mono (fun j _ h => f4 j h))
  exact ⟨hz.os, hz.tape, hz.output, hz.size, fun k hk _ => hz.block k hk (by omega)⟩
end Go.Proofs.Ytgohlbljdffelaa.Ord

/- Openers of arguments of whatever kinds (slices of structs, strings, numbers, slices), and how arguments are read again behind a call. Own work of this seat; no condition. -/
namespace Go.Proofs.Ytgohlbljdffelaa.Base
open Go.RowKit Go.Proofs.YtgohlbljdffelaaW.PrintWords Go.Deep

section
variable {H : Type} (enc : TypeId × Value → H) (P : Program) (W : World) (base : Nat) (spare : Nat → Bool) (held : Bool)

/-- Whatever is read at type t is an element of kind d, and G holds of it. -/
def Opens {α : Type} (d : Kd α) (G : α → Prop) (t : TypeId) : Prop :=
  P.cellsOf t = d.sz ∧ ∀ (n : Nat) (cs : List Value) (y : DataW H × List MemPlace), DataW.trod enc P W base spare held n t cs = some y → ∃ p, d.K W p cs ∧ G p

/-- Likewise of a struct's fields from offset o on. -/
def FOpens {α : Type} (d : Kd α) (G : α → Prop) (fs : List Field) (o : Nat) : Prop :=
  ∀ (n : Nat) (cs : List Value), cs.length = o + d.sz → (∀ f ∈ fs, ∃ y, DataW.trod enc P W base spare held n f.type ((cs.drop f.offset).take (P.cellsOf f.type)) = some y) → ∃ p, d.K W p (cs.drop o) ∧ G p
end

section
variable {H : Type} {enc : TypeId × Value → H} {P : Program} {W : World} {base : Nat} {spare : Nat → Bool} {held : Bool}

theorem opens_int {k : IntKind} {t : TypeId} (ht : P.underlying t = some (.int k)) (hc : P.cellsOf t = 1) : Opens enc P W base spare held (Kd.int k) (fun n => (Lit.int k n).wf = true) t :=
  ⟨hc, fun n cs y h => by
    obtain ⟨m, rfl, _, hw⟩ := DataW.trod_int ht h
    exact ⟨m, rfl, hw⟩⟩
theorem opens_bool {t : TypeId} (ht : P.underlying t = some .bool) (hc : P.cellsOf t = 1) : Opens enc P W base spare held Kd.bool (fun _ => True) t :=
  ⟨hc, fun n cs y h => by
    obtain ⟨b, rfl, _⟩ := DataW.trod_bool ht h
    exact ⟨b, rfl, trivial⟩⟩
theorem opens_string {t : TypeId} (ht : P.underlying t = some .string) (hc : P.cellsOf t = 1) : Opens enc P W base spare held Kd.string (fun s => s.size ≤ maxLen) t :=
  ⟨hc, fun n cs y h => by
    obtain ⟨s, rfl, _, hs⟩ := DataW.trod_string ht h
    exact ⟨s, rfl, hs⟩⟩

/-- From 'for each i below n there is a p' to a list. -/
theorem list_of {α : Type} {Q : Nat → α → Prop} : ∀ (n : Nat), (∀ i, i < n → ∃ p, Q i p) → ∃ xs : List α, xs.length = n ∧ ∀ i p, xs[i]? = some p → Q i p
  | 0, _ => ⟨[], rfl, fun i p h => by simp at h⟩
  | n + 1, h => by
    obtain ⟨xs, hl, hx⟩ := list_of n (fun i hi => h i (by omega))
    obtain ⟨p, hp⟩ := h n (by omega)
    refine ⟨xs ++ [p], by simp [hl], fun i q hq => ?_⟩
    rcases Nat.lt_or_ge i xs.length with hi | hi
    · rw [List.getElem?_append_left hi] at hq
      exact hx i q hq
    · rw [List.getElem?_append_right hi] at hq
      have : i - xs.length = 0 := by
        rcases Nat.eq_zero_or_pos (i - xs.length) with h0 | h0
        · exact h0
        · rw [List.getElem?_eq_none (by simp; omega)] at hq
          cases hq
      rw [this] at hq
      simp at hq
      subst hq
      rw [show i = n by omega]
      exact hp

theorem opens_row {α : Type} {d : Kd α} {G : α → Prop} {t e : TypeId} {fuel : Nat} {cs : List Value} {y : DataW H × List MemPlace} (ht : P.underlying t = some (.slice e)) (hd : Opens enc P W base spare held d G e) (h : DataW.trod enc P W base spare held fuel t cs = some y) :
    ∃ (A : Option Addr) (c : Nat) (xs : List α), cs = [.slice A xs.length c] ∧ xs.length ≤ c ∧ d.C W A xs.length xs ∧ (∀ x ∈ xs, G x) := by
  rcases open_slice ht h with ⟨rfl, rfl⟩ | ⟨a, len, cap, m, n, D, Pl, rfl, hb, hl, hm, hmm, rfl, hx⟩
  · exact ⟨none, 0, [], rfl, Nat.le_refl _, ⟨rfl, by simp, fun h0 => by simp at h0⟩, fun x hx => by simp at hx⟩
  · have hlm : len ≤ m := by rw [hmm]; split <;> omega
    obtain ⟨xs, hxl, hxs⟩ := list_of (Q := fun i p => ∃ cs', cs'.length = P.cellsOf e ∧ (∀ j u, cs'[j]? = some u → W.cell? ((a.add (i * P.cellsOf e)).add j) = some u) ∧ d.K W p cs' ∧ G p) len (fun i hi => by
      obtain ⟨cs', h1, h2⟩ := hx i (by omega)
      obtain ⟨_, h3, h4⟩ := World.cells?_some h1
      obtain ⟨p, hp, hg⟩ := hd.2 _ _ _ h2
      exact ⟨p, cs', h3, fun j u hu => by
        have hj := (List.getElem?_eq_some_iff.1 hu).1
        rw [h4 j (by omega)]; exact hu, hp, hg⟩)
    unfold maxLen at hm
    refine ⟨some a, cap, xs, by rw [hxl], by omega, ⟨rfl, by omega, fun _ => ⟨a, rfl, fun j p hj => ?_⟩⟩, fun x hx => ?_⟩
    · obtain ⟨cs', h3, h4, hp, _⟩ := hxs j p hj
      refine ⟨cs', by rw [h3, hd.1], hp, fun i u hu => ?_⟩
      rw [← hd.1, ← Deep.add_add]
      exact h4 i u hu
    · obtain ⟨j, hj⟩ := List.getElem?_of_mem hx
      obtain ⟨_, _, _, _, hg⟩ := hxs j x hj
      exact hg

theorem opens_slice {α : Type} {d : Kd α} {G : α → Prop} {t e : TypeId} (ht : P.underlying t = some (.slice e)) (hc : P.cellsOf t = 1) (hd : Opens enc P W base spare held d G e) :
    Opens enc P W base spare held (Kd.slice e d) (fun xs => ∀ x ∈ xs, G x) t :=
  ⟨hc, fun n cs y h => by
    obtain ⟨A, c, xs, rfl, h1, h2, h3⟩ := opens_row ht hd h
    exact ⟨xs, ⟨A, c, rfl, h1, h2⟩, h3⟩⟩

theorem opens_iso {α β : Type} {d : Kd α} {G : α → Prop} {t : TypeId} (f : β → α) (g : α → β) (hfg : ∀ x, f (g x) = x) (h : Opens enc P W base spare held d G t) :
    Opens enc P W base spare held (Kd.iso d f) (fun x => G (f x)) t :=
  ⟨h.1, fun n cs y hy => by
    obtain ⟨p, hp, hg⟩ := h.2 n cs y hy
    refine ⟨g p, ?_, ?_⟩
    · show d.K W (f (g p)) cs
      rw [hfg]; exact hp
    · show G (f (g p))
      rw [hfg]; exact hg⟩

theorem fopens_last {α : Type} {d : Kd α} {G : α → Prop} {f : Field} {o : Nat} (ho : f.offset = o) (h : Opens enc P W base spare held d G f.type) : FOpens enc P W base spare held d G [f] o := by
  intro n cs hl hf
  obtain ⟨y, hy⟩ := hf f List.mem_cons_self
  obtain ⟨p, hp, hg⟩ := h.2 _ _ _ hy
  rw [ho, h.1, List.take_of_length_le (by rw [List.length_drop]; omega)] at hp
  exact ⟨p, hp, hg⟩

theorem fopens_cons {α β : Type} {d : Kd α} {d' : Kd β} {G : α → Prop} {G' : β → Prop} {f : Field} {fs : List Field} {o : Nat} (ho : f.offset = o) (h : Opens enc P W base spare held d G f.type) (h' : FOpens enc P W base spare held d' G' fs (o + d.sz)) :
    FOpens enc P W base spare held (Kd.pair d d') (fun x => G x.1 ∧ G' x.2) (f :: fs) o := by
  intro n cs hl hf
  obtain ⟨y, hy⟩ := hf f List.mem_cons_self
  obtain ⟨p, hp, hg⟩ := h.2 _ _ _ hy
  obtain ⟨q, hq, hg'⟩ := h' n cs (by rw [hl]; show o + (d.sz + d'.sz) = _; omega) (fun f' hf' => hf f' (List.mem_cons_of_mem _ hf'))
  rw [ho, h.1] at hp
  refine ⟨(p, q), ⟨_, _, ?_, hp, hq⟩, hg, hg'⟩
  rw [← List.drop_drop, List.take_append_drop]

theorem opens_struct {α : Type} {d : Kd α} {G : α → Prop} {t : TypeId} {fs : Array Field} (ht : P.underlying t = some (.struct fs)) (hc : P.cellsOf t = d.sz) (h : FOpens enc P W base spare held d G fs.toList 0) :
    Opens enc P W base spare held d G t :=
  ⟨hc, fun n cs y hy => by
    obtain ⟨xs, m, rfl, rfl, hl, hlen, hf⟩ := DataW.trod_struct ht hy
    have := h m cs (by omega) (fun f hf' => by
      obtain ⟨i, hi⟩ := List.getElem?_of_mem hf'
      rw [Array.getElem?_toList] at hi
      have hlt : i < xs.length := by
        have := (Array.getElem?_eq_some_iff.1 hi).1
        omega
      exact ⟨xs[i], by rw [hf i f hi, List.getElem?_eq_getElem hlt]⟩)
    simpa using this⟩

theorem okWide_array {r : Reach} {m n : Nat} {t e : TypeId} {v : Value} (ht : P.underlying t = some (.array n e)) (h : Value.okWide P W r m t v) : ∃ cs, v = .agg cs ∧ cs.size = P.cellsOf t := by
  simp only [Value.okWide, ht] at h
  obtain ⟨cs, h1, h2, _⟩ := h
  exact ⟨cs, h1, h2⟩

/-- An array of bytes by value. -/
theorem open_key {t e : TypeId} {n fuel : Nat} {cs : Array Value} {y : DataW H × List MemPlace} (ht : P.underlying t = some (.array n e)) (he : P.underlying e = some (.int .u8)) (hc : P.cellsOf e = 1 ∧ P.cellsOf t = n) (h : DataW.trod enc P W base spare held fuel t (Value.agg cs).cells.toList = some y) :
    ∃ key : List UInt8, key.length = n ∧ cs = (key.map fun b => Value.int .u8 (b.toNat : Int)).toArray := by
  have hcs : (Value.agg cs).cells.toList = cs.toList := rfl
  rw [hcs] at h
  obtain ⟨xs, m, _, _, hl, hxl, hx⟩ := DataW.trod_array ht h
  rw [hc.2] at hl
  obtain ⟨key, hkl, hkey⟩ := list_of (Q := fun i (b : UInt8) => cs.toList[i]? = some (.int .u8 (b.toNat : Int))) n (fun i hi => by
    have h1 := hx i hi
    rw [hc.1, List.getElem?_eq_getElem (by omega)] at h1
    obtain ⟨k, hk, _, hw⟩ := DataW.trod_int he h1
    have hb : 0 ≤ k ∧ k ≤ 255 := by
      simp [Lit.wf, IntKind.min, IntKind.max, IntKind.signed, IntKind.bits] at hw
      omega
    refine ⟨UInt8.ofNat k.toNat, ?_⟩
    have h2 : (cs.toList.drop (i * 1)).take 1 = [cs.toList[i]'(by omega)] := by
      rw [Nat.mul_one, List.drop_eq_getElem_cons (by omega)]
      rfl
    rw [h2] at hk
    rw [List.getElem?_eq_getElem (by omega)]
    simp only [List.cons.injEq, and_true] at hk
    rw [hk, UInt8.toNat_ofNat']
    congr 2
    omega)
  refine ⟨key, hkl, ?_⟩
  apply Array.ext'
  apply List.ext_getElem?
  intro i
  rw [List.getElem?_map]
  rcases Nat.lt_or_ge i n with hi | hi
  · rw [hkey i (key[i]'(by omega)) (List.getElem?_eq_getElem (by omega)), List.getElem?_eq_getElem (by omega)]
    rfl
  · rw [List.getElem?_eq_none (by omega), List.getElem?_eq_none (by omega)]
    rfl

/-- The arguments read behind the call as they read ahead of it. -/
theorem trodAll_keep (hl : laidOutB P = true) {W' : World} (bel : Below W.heap.size W W') : ∀ {ts : List TypeId} {vs : List Value} {ds : List (DataW H)} {ps : List MemPlace}, (∀ t ∈ ts, P.readableRec t = true ∧ t < P.types.size) →
    DataW.TrodAll enc P W 0 (fun _ => true) true ts vs ds ps → DataW.TrodAll enc P W' 0 (fun b => decide (b < W.heap.size)) true ts vs ds ps
  | [], [], [], ps, _, h => h
  | [], [], _ :: _, _, _, h => h.elim
  | [], _ :: _, _, _, _, h => h.elim
  | _ :: _, [], _, _, _, h => h.elim
  | _ :: _, _ :: _, [], _, _, h => h.elim
  | t :: ts, v :: vs, d :: ds, ps, ht, h => by
    have hlt := h.lt
    obtain ⟨p, q, h1, h2, rfl⟩ := h
    exact ⟨p, q, Below.trod hl (ht t List.mem_cons_self).1 (ht t List.mem_cons_self).2 h1 bel (fun x hx => hlt x (List.mem_append_left _ hx)), trodAll_keep hl bel (fun t' ht' => ht t' (List.mem_cons_of_mem _ ht')) h2, rfl⟩

end
end Go.Proofs.Ytgohlbljdffelaa.Base

/- the acts of law 20: how a row of them is read. Own work of this seat. -/
namespace Go.Proofs.Ytgohlbljdffelaa.Ord
open Go.RowKit Go.Proofs.Ytgohlbljdffelaa.Kit Go.Proofs.Ytgohlbljdffelaa.AgP Go.Proofs.YtgohlbljdffelaaW.PrintWords
set_option linter.unusedVariables false
set_option linter.unusedSimpArgs false

/-- An act: its kind, number and key. -/
structure Act3 where
  f0 : Int
  f1 : Int
  f2 : ByteArray
def kAct : Kd Act3 := Kd.iso (Kd.pair (Kd.int .i64) (Kd.pair (Kd.int .i64) Kd.string)) (fun x : Act3 => (x.f0, x.f1, x.f2))
theorem kAct_open {w : World} {x : Act3} {cs : List Value} (h : kAct.K w x cs) : cs = [.int .i64 x.f0, .int .i64 x.f1, .string x.f2] := by
  obtain ⟨_, _, rfl, rfl, ⟨_, _, rfl, rfl, rfl⟩⟩ := h
  exact rfl
def zAct : Act3 := ⟨0, 0, ⟨#[]⟩⟩
theorem cell_lt {w : World} {p : Addr} {v : Value} (h : w.cell? p = some v) : p.block < w.heap.size := by
  rcases Nat.lt_or_ge p.block w.heap.size with hl | hl
  · exact hl
  · unfold World.cell? at h
    rw [Array.getElem?_eq_none hl] at h
    simp at h
theorem cell_bel {w w' : World} {p : Addr} {v : Value} (h : w.cell? p = some v) (hb : Below w.heap.size w w') : w'.cell? p = some v := by
  rw [hb.cell (cell_lt h)]; exact h
theorem act_at {w : World} {A : Option Addr} {n : Nat} {xs : List Act3} (h : Kd.C kAct w A n xs) (i : Nat) (h1 : i < n) : ∃ (ad : Addr), A = some ad ∧ ∀ w', Below w.heap.size w w' → w'.cell? (ad.add (i * 3)) = some (.int .i64 (xs.getD i zAct).f0) ∧ w'.cell? ⟨(ad.add (i * 3)).block, (ad.add (i * 3)).off + 1, none⟩ = some (.int .i64 (xs.getD i zAct).f1) ∧ w'.cell? ⟨(ad.add (i * 3)).block, (ad.add (i * 3)).off + 2, none⟩ = some (.string (xs.getD i zAct).f2) := by
  obtain ⟨ad, c, e, _, hK, hc0⟩ := Kd.C_get h zAct (i : Int) (by omega) (by omega)
  have hc : ∀ j u, c[j]? = some u → w.cell? (ad.add (i * 3 + j)) = some u := hc0
  obtain rfl := kAct_open hK
  exact ⟨ad, e, fun w' hb => ⟨cell_bel (hc 0 _ rfl) hb, cell_bel (by rw [← add_field _ _ 1 (by omega)]; exact hc 1 _ rfl) hb, cell_bel (by rw [← add_field _ _ 2 (by omega)]; exact hc 2 _ rfl) hb⟩⟩
end Go.Proofs.Ytgohlbljdffelaa.Ord

/- The walk of stewardlaw20.AgendaPlays. Own work of this seat. -/
namespace Go.Proofs.Ytgohlbljdffelaa.Ord
open Go.RowKit Go.Proofs.Ytgohlbljdffelaa.Kit Go.Proofs.Ytgohlbljdffelaa.AgP Go.Proofs.Ytgohlbljdffelaa.It Go.Proofs.YtgohlbljdffelaaW.PrintWords Go.Proofs.Ytgohlbljdffelaa
set_option linter.unusedVariables false
set_option linter.unusedSimpArgs false

/-- Between the calls of AgendaPlays: both, in blocks of the call's own. -/
structure PJ (w0 w : World) (a : Nat) (F : Nat → Prop) (L : List (Ev ByteArray)) (t : Nat) (A : Option Addr) (c : Nat) : Prop where
  bo : Bo w a F L t A c
  low : ∀ k, F k → w0.heap.size ≤ k
  bel : Below w0.heap.size w0 w
theorem PJ.same {w0 w w' : World} {a : Nat} {F : Nat → Prop} {L : List (Ev ByteArray)} {t : Nat} {A : Option Addr} {c : Nat} (h : PJ w0 w a F L t A c) (hs : Step (fun _ => False) w w') : PJ w0 w' a F L t A c :=
  ⟨h.bo.same hs, h.low, h.bel.trans (hs.below h.bel.size (fun _ h => h.elim))⟩

set_option maxRecDepth 100000 in
set_option maxHeartbeats 8000000 in
theorem plays_calls (A0 : Option Addr) (c0 : Nat) (acts : List Act3) (A1 : Option Addr) (c1 : Nat) (more : List Act3) (w : World) (hr : Kd.C kAct w A0 acts.length acts) (hc : acts.length ≤ c0) (hg : ∀ x ∈ acts, x.f2.size ≤ 9223372036854775807) (hr1 : Kd.C kAct w A1 more.length more) (hc1 : more.length ≤ c1) (hg1 : ∀ x ∈ more, x.f2.size ≤ 9223372036854775807) :
    Calls Try.prog 5 #[.slice A0 acts.length c0, .slice A1 more.length c1] w fun e w' => e = .returned (.bool true) ∧ Below w.heap.size w w' := by
  have hact := Lib.hid (fun i (hi : i < acts.length) => act_at hr i hi)
  have hmor := Lib.hid (fun i (hi : i < more.length) => act_at hr1 i hi)
  have HG := Lib.hid (fun i (hi : i < acts.length) => hg (acts.getD i zAct) (by rw [List.getD_eq_getElem?_getD, List.getElem?_eq_getElem hi]; exact List.getElem_mem hi))
  have HG1 := Lib.hid (fun i (hi : i < more.length) => hg1 (more.getD i zAct) (by rw [List.getD_eq_getElem?_getD, List.getElem?_eq_getElem hi]; exact List.getElem_mem hi))
  clear hr hg hr1 hg1
  generalize acts.length = n at *
  generalize more.length = n1 at *
  have HN := Lib.hid (fun w1 => AgStr.new_calls w1)
  go_enter Try.func5, Try.ntmps5
  go_upto_region 6 with (first | (go_at_call 8; refine (awake_calls _).mono ?_; rintro e0 w1 ⟨rfl, hs1⟩) | (go_at_call 21; refine (HN.out _).mono ?_; rintro e1 w2 ⟨a, F, rfl, hA2, hs2, hF2⟩))
  have hJ0 : PJ w w2 a F [] 0 none 0 := by
    have z1 := hs1.size
    exact ⟨⟨hA2, rseg_nil _ _ _, Nat.le_refl _, fun k hk => (by cases hk), fun k hk => (by cases hk)⟩, fun k hk => by have := hF2 k hk; omega, (hs1.below (Nat.le_refl _) (fun _ h => h.elim)).trans (hs2.below z1 (fun _ h => h.elim))⟩
  clear hA2 hs1 hs2 hF2 HN
  go_wp2
  go_loopw [6, 7, 8] (fun v6 v7 v8 wr => ∃ (i : Nat) (b : Bool) (F : Nat → Prop) (L : List (Ev ByteArray)) (t : Nat) (A : Option Addr) (c : Nat), v8 = .int .i64 (i : Int) ∧ v6 = .slice A L.length c ∧ v7 = .bool b ∧ i ≤ 60 ∧ t ≤ i ∧ PJ w wr a F L t A c) (fun _ _ v _ => 60 - (intOf v).toNat)
  case atStart => exact ⟨0, false, F, [], 0, none, 0, rfl, rfl, rfl, by omega, by omega, hJ0⟩
  case round =>
    clear hJ0 F
    obtain ⟨i, b, F, L, t, A, c, rfl, rfl, rfl, hi, hti, hJ⟩ := hrel
    by_cases hgo : i < n ∧ i < 60
    · obtain ⟨hin, hi60⟩ := hgo
      have hin' : ((i : Int) < (n : Int)) := by omega
      have hi60' : ((i : Int) < 60) := by omega
      obtain ⟨ad, rfl, hcell⟩ := hact.out i hin
      have hgk := HG.out i hin
      obtain ⟨d0, d1, d2⟩ := hcell wr hJ.bel
      generalize acts.getD i zAct = x at *
      obtain ⟨kd, nn, ks⟩ := x
      simp only at d0 d1 d2 hgk
      have HDO := Lib.hid (do_calls hJ.bo (by omega) kd nn ks hgk)
      have HJ := Lib.hid hJ
      clear hJ hcell
      go_upto_region 12 with (go_at_call 22; refine HDO.out.mono ?_; rintro e3 w3 ⟨F3, L3, t3, A3, c3, rfl, hB3, ht3, hs3, hn3, hA3⟩)
      have hz := HJ.out.bel.size
      have hJ3 : PJ w w3 a F3 L3 t3 A3 c3 := ⟨hB3, fun k hk => (hn3 k hk).elim (HJ.out.low k) (fun h => by omega), HJ.out.bel.trans (hs3.below HJ.out.bel.size HJ.out.low)⟩
      have HIS := Lib.hid (is_calls hB3 (by omega))
      have HJ3 := Lib.hid hJ3
      clear d0 d1 d2 HDO hJ3 hB3 hs3 hn3 hA3
      go_wp2_with (go_at_call 23; refine HIS.out.mono ?_; rintro e4 w4 ⟨rfl, hs4⟩)
      go_roundw
      case rel => exact ⟨i + 1, true, F3, L3, t3, A3, c3, by go_num, rfl, rfl, by omega, by omega, HJ3.out.same hs4⟩
      case measure => simp [intOf]; omega
    · have HCL := Lib.hid (AgStr.clone_calls hJ.bo.ag (by omega))
      have HJ := Lib.hid hJ
      have hends : ¬ i < n ∨ (i < n ∧ ¬ i < 60) := by omega
      clear hJ hact HG
      rcases hends with h1 | ⟨h1, h2⟩
      · have q1 : ((i : Int) < (n : Int)) = False := eq_false (by omega)
        go_upto_region 15 with (go_at_call 24; refine HCL.out.mono ?_; rintro e5 w5 ⟨b2, G, rfl, hA5, hs5, hG5⟩)
        have hJ5 := HJ.out.same hs5
        have hz := HJ.out.bel.size
        have hz5 := hs5.size
        have hK5 : PJ w w5 b2 G L t A c := ⟨⟨hA5, HJ.out.bo.rd.same hs5, HJ.out.bo.le, fun k hk hG => by have := HJ.out.bo.lt k hk; have := hG5 k hG; omega, fun k hk => by have := HJ.out.bo.lt k hk; omega⟩, fun k hk => by have := hG5 k hk; omega, hJ5.bel⟩
        have HFZ := Lib.hid (fun k (hk : F k) => (HJ.out.bo.ag.lt hk : k < wr.heap.size))
        have HAZ := Lib.hid HJ.out.bo.lt
        generalize wr.heap.size = z at *
        clear hA5 hs5 HCL HJ
        go_wp2
        go_loopw [7, 10, 11] (fun v7 v10 v11 wr => ∃ (i2 : Nat) (b3 : Bool) (G : Nat → Prop) (L2 : List (Ev ByteArray)) (t2 : Nat) (A2 : Option Addr) (c2 : Nat), v11 = .int .i64 (i2 : Int) ∧ v10 = .slice A2 L2.length c2 ∧ v7 = .bool b3 ∧ i2 ≤ 20 ∧ t2 ≤ 60 + i2 ∧ PJ w wr b2 G L2 t2 A2 c2 ∧ PJ w wr a F L t A c ∧ (∀ k, G k → z ≤ k)) (fun _ _ v _ => 20 - (intOf v).toNat)
        case atStart => exact ⟨0, b, G, L, t, A, c, rfl, rfl, rfl, by omega, by omega, hK5, hJ5, hG5⟩
        case round =>
          clear hJ5 hK5 hG5 G
          obtain ⟨i2, b3, G, L2, t2, A2, c2, rfl, rfl, rfl, hi2, ht2, hK, hJ, hGz⟩ := hrel
          by_cases hgo2 : i2 < n1 ∧ i2 < 20
          · obtain ⟨hin2, hi20⟩ := hgo2
            have hin2' : ((i2 : Int) < (n1 : Int)) := by omega
            have hi20' : ((i2 : Int) < 20) := by omega
            obtain ⟨ad, rfl, hcell⟩ := hmor.out i2 hin2
            have hgk := HG1.out i2 hin2
            obtain ⟨d0, d1, d2⟩ := hcell wr hK.bel
            generalize more.getD i2 zAct = x at *
            obtain ⟨kd, nn, ks⟩ := x
            simp only at d0 d1 d2 hgk
            have HDO := Lib.hid (do_calls hK.bo (by omega) kd nn ks hgk)
            have HK := Lib.hid hK
            have HJ := Lib.hid hJ
            clear hK hJ hcell
            go_upto_region 21 with (go_at_call 22; refine HDO.out.mono ?_; rintro e3 w3 ⟨F3, L3, t3, A3, c3, rfl, hB3, ht3, hs3, hn3, hA3⟩)
            have hz2 := HK.out.bel.size
            have hbel3 := HK.out.bel.trans (hs3.below HK.out.bel.size HK.out.low)
            have hzz : z ≤ wr.heap.size := by have := HK.out.bo.ag.lt HK.out.bo.ag.own; have := hGz _ HK.out.bo.ag.own; omega
            have HK3 := Lib.hid (⟨hB3, fun k hk => (hn3 k hk).elim (HK.out.low k) (fun h => by omega), hbel3⟩ : PJ w w3 b2 F3 L3 t3 A3 c3)
            have HJ3 := Lib.hid (⟨HJ.out.bo.keep hs3 (fun k hk hG => by have := HFZ.out k hk; have := hGz k hG; omega) (fun k hk hG => by have := HAZ.out k hk; have := hGz k hG; omega), HJ.out.low, hbel3⟩ : PJ w w3 a F L t A c)
            have hG3 : ∀ k, F3 k → z ≤ k := fun k hk => (hn3 k hk).elim (hGz k) (fun h => by omega)
            clear d0 d1 d2 HDO hB3 hs3 hn3 hA3 hGz HK HJ
            go_wp2
            go_roundw
            case rel => exact ⟨i2 + 1, true, F3, L3, t3, A3, c3, by go_num, rfl, rfl, by omega, by omega, HK3.out, HJ3.out, hG3⟩
            case measure => simp [intOf]; omega
          · have HI1 := Lib.hid (is_calls hJ.bo (by omega))
            have HI2 := Lib.hid (fun w' (hs : Step (fun _ => False) wr w') => is_calls (hK.bo.same hs) (by omega))
            have hbel := hK.bel
            clear hK hJ hmor HG1
            have hends2 : ¬ i2 < n1 ∨ (i2 < n1 ∧ ¬ i2 < 20) := by omega
            rcases hends2 with h1 | ⟨h1, h2⟩
            · have q1 : ((i2 : Int) < (n1 : Int)) = False := eq_false (by omega)
              go_wp2_with (first | (go_at_call 23; refine HI1.out.mono ?_; clear HI1; rintro e6 w6 ⟨rfl, hs6⟩) | (go_at_call 23; refine (HI2.out _ hs6).mono ?_; rintro e7 w7 ⟨rfl, hs7⟩))
              go_ret
              exact ⟨rfl, hbel.trans ((hs6.same hs7).below hbel.size (fun _ h => h.elim))⟩
            · have q1 : ((i2 : Int) < (n1 : Int)) = True := eq_true (by omega)
              have q2 : ((i2 : Int) < 20) = False := eq_false (by omega)
              go_wp2_with (first | (go_at_call 23; refine HI1.out.mono ?_; clear HI1; rintro e6 w6 ⟨rfl, hs6⟩) | (go_at_call 23; refine (HI2.out _ hs6).mono ?_; rintro e7 w7 ⟨rfl, hs7⟩))
              go_ret
              exact ⟨rfl, hbel.trans ((hs6.same hs7).below hbel.size (fun _ h => h.elim))⟩
      · have q1 : ((i : Int) < (n : Int)) = True := eq_true (by omega)
        have q2 : ((i : Int) < 60) = False := eq_false (by omega)
        go_upto_region 15 with (go_at_call 24; refine HCL.out.mono ?_; rintro e5 w5 ⟨b2, G, rfl, hA5, hs5, hG5⟩)
        have hJ5 := HJ.out.same hs5
        have hz := HJ.out.bel.size
        have hz5 := hs5.size
        have hK5 : PJ w w5 b2 G L t A c := ⟨⟨hA5, HJ.out.bo.rd.same hs5, HJ.out.bo.le, fun k hk hG => by have := HJ.out.bo.lt k hk; have := hG5 k hG; omega, fun k hk => by have := HJ.out.bo.lt k hk; omega⟩, fun k hk => by have := hG5 k hk; omega, hJ5.bel⟩
        have HFZ := Lib.hid (fun k (hk : F k) => (HJ.out.bo.ag.lt hk : k < wr.heap.size))
        have HAZ := Lib.hid HJ.out.bo.lt
        generalize wr.heap.size = z at *
        clear hA5 hs5 HCL HJ
        go_wp2
        go_loopw [7, 10, 11] (fun v7 v10 v11 wr => ∃ (i2 : Nat) (b3 : Bool) (G : Nat → Prop) (L2 : List (Ev ByteArray)) (t2 : Nat) (A2 : Option Addr) (c2 : Nat), v11 = .int .i64 (i2 : Int) ∧ v10 = .slice A2 L2.length c2 ∧ v7 = .bool b3 ∧ i2 ≤ 20 ∧ t2 ≤ 60 + i2 ∧ PJ w wr b2 G L2 t2 A2 c2 ∧ PJ w wr a F L t A c ∧ (∀ k, G k → z ≤ k)) (fun _ _ v _ => 20 - (intOf v).toNat)
        case atStart => exact ⟨0, b, G, L, t, A, c, rfl, rfl, rfl, by omega, by omega, hK5, hJ5, hG5⟩
        case round =>
          clear hJ5 hK5 hG5 G
          obtain ⟨i2, b3, G, L2, t2, A2, c2, rfl, rfl, rfl, hi2, ht2, hK, hJ, hGz⟩ := hrel
          by_cases hgo2 : i2 < n1 ∧ i2 < 20
          · obtain ⟨hin2, hi20⟩ := hgo2
            have hin2' : ((i2 : Int) < (n1 : Int)) := by omega
            have hi20' : ((i2 : Int) < 20) := by omega
            obtain ⟨ad, rfl, hcell⟩ := hmor.out i2 hin2
            have hgk := HG1.out i2 hin2
            obtain ⟨d0, d1, d2⟩ := hcell wr hK.bel
            generalize more.getD i2 zAct = x at *
            obtain ⟨kd, nn, ks⟩ := x
            simp only at d0 d1 d2 hgk
            have HDO := Lib.hid (do_calls hK.bo (by omega) kd nn ks hgk)
            have HK := Lib.hid hK
            have HJ := Lib.hid hJ
            clear hK hJ hcell
            go_upto_region 21 with (go_at_call 22; refine HDO.out.mono ?_; rintro e3 w3 ⟨F3, L3, t3, A3, c3, rfl, hB3, ht3, hs3, hn3, hA3⟩)
            have hz2 := HK.out.bel.size
            have hbel3 := HK.out.bel.trans (hs3.below HK.out.bel.size HK.out.low)
            have hzz : z ≤ wr.heap.size := by have := HK.out.bo.ag.lt HK.out.bo.ag.own; have := hGz _ HK.out.bo.ag.own; omega
            have HK3 := Lib.hid (⟨hB3, fun k hk => (hn3 k hk).elim (HK.out.low k) (fun h => by omega), hbel3⟩ : PJ w w3 b2 F3 L3 t3 A3 c3)
            have HJ3 := Lib.hid (⟨HJ.out.bo.keep hs3 (fun k hk hG => by have := HFZ.out k hk; have := hGz k hG; omega) (fun k hk hG => by have := HAZ.out k hk; have := hGz k hG; omega), HJ.out.low, hbel3⟩ : PJ w w3 a F L t A c)
            have hG3 : ∀ k, F3 k → z ≤ k := fun k hk => (hn3 k hk).elim (hGz k) (fun h => by omega)
            clear d0 d1 d2 HDO hB3 hs3 hn3 hA3 hGz HK HJ
            go_wp2
            go_roundw
            case rel => exact ⟨i2 + 1, true, F3, L3, t3, A3, c3, by go_num, rfl, rfl, by omega, by omega, HK3.out, HJ3.out, hG3⟩
            case measure => simp [intOf]; omega
          · have HI1 := Lib.hid (is_calls hJ.bo (by omega))
            have HI2 := Lib.hid (fun w' (hs : Step (fun _ => False) wr w') => is_calls (hK.bo.same hs) (by omega))
            have hbel := hK.bel
            clear hK hJ hmor HG1
            have hends2 : ¬ i2 < n1 ∨ (i2 < n1 ∧ ¬ i2 < 20) := by omega
            rcases hends2 with h1 | ⟨h1, h2⟩
            · have q1 : ((i2 : Int) < (n1 : Int)) = False := eq_false (by omega)
              go_wp2_with (first | (go_at_call 23; refine HI1.out.mono ?_; clear HI1; rintro e6 w6 ⟨rfl, hs6⟩) | (go_at_call 23; refine (HI2.out _ hs6).mono ?_; rintro e7 w7 ⟨rfl, hs7⟩))
              go_ret
              exact ⟨rfl, hbel.trans ((hs6.same hs7).below hbel.size (fun _ h => h.elim))⟩
            · have q1 : ((i2 : Int) < (n1 : Int)) = True := eq_true (by omega)
              have q2 : ((i2 : Int) < 20) = False := eq_false (by omega)
              go_wp2_with (first | (go_at_call 23; refine HI1.out.mono ?_; clear HI1; rintro e6 w6 ⟨rfl, hs6⟩) | (go_at_call 23; refine (HI2.out _ hs6).mono ?_; rintro e7 w7 ⟨rfl, hs7⟩))
              go_ret
              exact ⟨rfl, hbel.trans ((hs6.same hs7).below hbel.size (fun _ h => h.elim))⟩
end Go.Proofs.Ytgohlbljdffelaa.Ord
