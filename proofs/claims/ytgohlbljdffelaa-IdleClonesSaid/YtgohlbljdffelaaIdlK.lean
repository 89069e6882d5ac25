/- idle: Clone. Own work of this seat. -/
import Derived.Test.YtgohlbljdffelaaIdlIs
import Derived.Test.YtgohlbljdffelaaAgKInt
import Derived.Maps.RangeWalk
import Derived.Maps.Ext
namespace Go.Proofs.Ytgohlbljdffelaa.Idl
open Go.RowKit Go.Proofs.Ytgohlbljdffelaa.Kit Go.Proofs.Ytgohlbljdffelaa.AgP Go.Proofs.Ytgohlbljdffelaa.IntS Go.Proofs.Ytgohlbljdffelaa.Rd Go.Maps Go.Proofs.Ytgohlbljdffelaa
set_option linter.unusedVariables false
set_option linter.unusedSimpArgs false

theorem str_inv {key : Value} {kl : Lit} (h : keyOf Try.prog 9 key = some kl) : ∃ s, key = .string s ∧ kl = slit s := by
  have hk := Try.underlying9
  cases key <;> simp [keyOf, hk, mapKey] at h
  exact ⟨_, rfl, h.2.symm⟩
theorem int_inv {key : Value} {kl : Lit} (h : keyOf Try.prog 3 key = some kl) : ∃ x, key = .int .i64 x ∧ kl = ilit x := by
  obtain ⟨x, e1, e2, _⟩ := Maps.keyOf_int_inv Try.underlying3 h
  exact ⟨x, e1, e2⟩
theorem some_of_at {f : Option Value} {v : Value} (h : ∀ z, f.getD z = v) : f = some v := by
  cases f with
  | none =>
    have h1 := h (.bool true)
    have h2 := h (.bool false)
    simp only [Option.getD_none] at h1 h2
    rw [← h1] at h2
    cases h2
  | some u => rw [← h u]; rfl
theorem step_of_grown' {w w' : World} {b : Nat} (h : w.grownBy w' (some b)) : Step (· = b) w w' := Step.of_grown h (fun k e _ => (Option.some.inj e).symm)
theorem step_of_grown_none {w w' : World} (h : w.grownBy w' none) : Step (fun _ => False) w w' := Step.of_grown h (fun k e _ => by cases e)
theorem ranges_keep {P : Program} {k : TypeId} {R : Value → Option (DataW Value × List MemPlace)} {w w' : World} {b r n : Nat} {D : DataW Value} {left : Lit → Bool} {cnt : Nat} {F : Nat → Prop} (h : w.ranges P k R b r n D left cnt) (hs : Step F w w') (hb : ¬ F b) (hr : ¬ F r) : w'.ranges P k R b r n D left cnt := by
  have h1 := h.owns.lt
  have h2 := h.lt
  obtain ⟨es, clock, since, seen, c0, hb', Fi, hs', hD, hr', rest⟩ := h
  exact ⟨es, clock, since, seen, c0, (hs.block b h1 hb).trans hb', Fi, hs', hD, (hs.block r h2 hr).trans hr', rest⟩
theorem own_empty {P : Program} {k : TypeId} {w : World} {b : Nat} {D : DataW Value} (h : w.ownsMap P k anyElem b 0 D) : D = .map [] := by
  obtain ⟨es, clock, hb, F, hs, hD⟩ := h
  have : es = #[] := Array.eq_empty_of_size_eq_zero (by omega)
  subst this
  exact hD
theorem own_keep {P : Program} {k : TypeId} {w w' : World} {b n : Nat} {D : DataW Value} {F : Nat → Prop} (h : w.ownsMap P k anyElem b n D) (hs : Step F w w') (hb : ¬ F b) : w'.ownsMap P k anyElem b n D := by
  have hlt := h.lt
  obtain ⟨es, clock, hb', G, hn, hD⟩ := h
  exact ⟨es, clock, (hs.block b hlt hb).trans hb', G, hn, hD⟩
/-- The stacks that have been cloned: those whose names are no longer to come. -/
structure St (z : Nat) (w : World) (l : List On) (left : Lit → Bool) (ro2 : ByteArray → Option Addr × Nat) (f2 : Lit → Option Value) : Prop where
  fs : ∀ s, f2 (slit s) = if stackOf l s = [] ∨ left (slit s) = true then none else some (.slice (ro2 s).1 (stackOf l s).length (ro2 s).2)
  row : ∀ s, stackOf l s ≠ [] → left (slit s) = false → ISeg w (ro2 s).1 (stackOf l s).length (ro2 s).2 (stackOf l s) ∧ ∀ k, blockOf (ro2 s).1 = some k → z ≤ k
  sep : ∀ s s' k, stackOf l s ≠ [] → left (slit s) = false → stackOf l s' ≠ [] → left (slit s') = false → blockOf (ro2 s).1 = some k → blockOf (ro2 s').1 = some k → s = s'
theorem St.keep {z : Nat} {w w' : World} {l : List On} {left : Lit → Bool} {ro2 : ByteArray → Option Addr × Nat} {f2 : Lit → Option Value} {F : Nat → Prop} (h : St z w l left ro2 f2) (hs : Step F w w') (hF : ∀ k, z ≤ k → ¬ F k) : St z w' l left ro2 f2 :=
  ⟨h.fs, fun s h1 h2 => ⟨(h.row s h1 h2).1.keep hs (fun k hk => hF k ((h.row s h1 h2).2 k hk)), (h.row s h1 h2).2⟩, h.sep⟩
/-- One stack more. -/
theorem St.next {z : Nat} {w w' : World} {l : List On} {left : Lit → Bool} {ro2 : ByteArray → Option Addr × Nat} {f2 : Lit → Option Value} (h : St z w l left ro2 f2) {s0 : ByteArray} (hne : stackOf l s0 ≠ []) {F : Nat → Prop} (hs : Step F w w') (hF : ∀ k, z ≤ k → k < w.heap.size → ¬ F k)
    {A : Option Addr} {c : Nat} (hA : ISeg w' A (stackOf l s0).length c (stackOf l s0)) (hAf : ∀ k, blockOf A = some k → w.heap.size ≤ k) (hz : z ≤ w.heap.size) (hl : left (slit s0) = true) :
    St z w' l (fun x => left x && !x.sameKey (slit s0)) (fun s => if s = s0 then (A, c) else ro2 s) (putF f2 (slit s0) (.slice A (stackOf l s0).length c)) := by
  have hleft : ∀ s, (left (slit s) && !(slit s).sameKey (slit s0)) = if s = s0 then false else left (slit s) := fun s => by
    by_cases e : s = s0
    · rw [if_pos e, e, WideAt.sameKey_self (slit_ok _)]; simp
    · have ek : slit s ≠ slit s0 := fun e' => e (slit_inj e')
      rw [if_neg e, Go.Maps.sameKey_ne ek]; simp
  have hold : ∀ s, stackOf l s ≠ [] → left (slit s) = false → ∀ k, blockOf (ro2 s).1 = some k → z ≤ k ∧ k < w.heap.size := fun s h1 h2 k hk => ⟨(h.row s h1 h2).2 k hk, (h.row s h1 h2).1.lt hk⟩
  refine ⟨fun s => ?_, fun s h1 h2 => ?_, fun s s' k h1 h2 h3 h4 h5 h6 => ?_⟩
  · unfold putF
    by_cases e : s = s0
    · subst e
      rw [if_pos (WideAt.sameKey_self (slit_ok _)), if_pos rfl, if_neg]
      rintro (h' | h')
      · exact hne h'
      · rw [WideAt.sameKey_self (slit_ok _)] at h'; simp at h'
    · have ek : slit s ≠ slit s0 := fun e' => e (slit_inj e')
      rw [if_neg (by rw [Go.Maps.sameKey_ne ek]; simp), if_neg e, h.fs s, hleft s, if_neg e]
  · rw [hleft s] at h2
    by_cases e : s = s0
    · subst e
      rw [if_pos rfl]
      exact ⟨hA, fun k hk => Nat.le_trans hz (hAf k hk)⟩
    · rw [if_neg e] at h2 ⊢
      exact ⟨(h.row s h1 h2).1.keep hs (fun k hk => hF k (hold s h1 h2 k hk).1 (hold s h1 h2 k hk).2), (h.row s h1 h2).2⟩
  · rw [hleft s] at h2
    rw [hleft s'] at h4
    by_cases e : s = s0
    · by_cases e' : s' = s0
      · rw [e, e']
      · rw [if_neg e'] at h4 h6
        rw [if_pos e] at h5
        have h7 := hAf k h5
        have h8 := (hold s' h3 h4 k h6).2
        omega
    · by_cases e' : s' = s0
      · rw [if_neg e] at h2 h5
        rw [if_pos e'] at h6
        have h7 := hAf k h6
        have h8 := (hold s h1 h2 k h5).2
        omega
      · rw [if_neg e] at h2 h5
        rw [if_neg e'] at h4 h6
        exact h.sep s s' k h1 h2 h3 h4 h5 h6

set_option maxRecDepth 100000 in
set_option maxHeartbeats 4000000 in
theorem clone_calls {w : World} {p : Nat} {F : Nat → Prop} {most life : Int} {l : List On} {t : Nat} (h : IdR w p F most life l t) (ht : t ≤ 10000) (hmo : clip1 most 0 1024 = most) (hli : clip1 life 1 1048576 = life) :
    Calls Try.prog 28 #[.pointer (some ⟨p, 0, none⟩)] w fun e w' => ∃ p2 F2, e = .returned (.pointer (some ⟨p2, 0, none⟩)) ∧ IdR w' p2 F2 most life l t ∧ Step (fun _ => False) w w' ∧ ∀ k, F2 k → w.heap.size ≤ k := by
  have hll := h.len_le
  have hstk := stack_le l
  have HH := Lib.hid h
  obtain ⟨h1, a, MS, MO, FA, L, ro, n1, n2, m2, fo, fs, hx, hF⟩ := id h
  have hFl : p < w.heap.size ∧ MS < w.heap.size ∧ MO < w.heap.size := ⟨hx.blk.lt, hx.ms.lt, hx.mo.lt⟩
  obtain ⟨DS, hDS, hDS2, hDS3⟩ := hx.ms
  obtain ⟨DO, hDO, hDO2, hDO3⟩ := hx.mo
  have hcnt := hx.cnt
  have hm2 : m2 ≤ n2 := hx.ms.size_le
  have hn2 : n2 ≤ 20000 := by omega
  have hl2 : l.length ≤ 10000 := by omega
  have x0 := hx.blk.cell (i := 0) rfl
  have x1 := hx.blk.cell (i := 1) rfl
  have HX := Lib.hid hx
  have HNW := Lib.hid (fun w1 => Idl.new_calls w1 most life)
  rw [hmo, hli] at HNW
  clear hx hF h1 h hmo hli
  go_enter Try.func28, Try.ntmps28
  go_upto_region 1 with (fail)
  go_still_tail 8, (by kernel_rfl)
  go_upto_region 2 with (go_at_call 14; refine (HNW.out _).mono ?_; rintro e1 w1 ⟨p2, F2, rfl, hI2, hs1', hF2⟩)
  have hs1 : Step (fun _ => False) w w1 := ((Step.refl (fun _ => False) w).drew).same hs1'
  obtain ⟨g1, a2, MS2, MO2, FA2, L2, ro9, k1, k2, k3, fo2, fs2, hy, hFy⟩ := hI2
  have hz1 := hs1.size
  obtain ⟨EO, hEO, _, _⟩ := hy.mo
  obtain rfl : k1 = 0 := by have := hy.cnt.1; omega
  obtain rfl : k2 = 0 := by have := hy.cnt.2; simp at this; omega
  obtain rfl := own_empty hEO
  have hy2 : w.heap.size ≤ p2 ∧ w.heap.size ≤ MS2 ∧ w.heap.size ≤ MO2 ∧ w.heap.size ≤ a2 := ⟨hF2 _ (hFy _ (.inl rfl)), hF2 _ (hFy _ (.inr (.inl rfl))), hF2 _ (hFy _ (.inr (.inr (.inl rfl)))), hF2 _ (hFy _ (.inr (.inr (.inr (.inl hy.ag.own)))))⟩
  have hyl : p2 < w1.heap.size ∧ MS2 < w1.heap.size ∧ MO2 < w1.heap.size := ⟨hy.blk.lt, hy.ms.lt, hy.mo.lt⟩
  have hne := hy.ne
  have hMS0 : MG Try.prog 9 w1 MS2 0 k3 fs2 := hy.ms
  have hfs0 : ∀ s, fs2 (slit s) = none := fun s => hy.fs s
  have HY := Lib.hid hy.blk
  have HEO := Lib.hid hEO
  have hX1 := HX.out.blk.keep hs1 (fun h => h)
  have c2 := hX1.cell (i := 2) rfl
  have hDS1 := own_keep hDS hs1 (fun h => h)
  have HDO := Lib.hid (own_keep hDO hs1 (fun h => h))
  clear x0 x1 hs1' hy hFy hF2 g1 hX1 HNW hDS hDO hEO
  go_upto_region 3 with (at_range; refine wpList_range_own _ rfl _ 83 rfl 9 40 msk Try.underlying83 _ MS n2 _ rfl hDS1 ?_; intro w2 hrg2 hg2 hz2)
  have hs2 := step_of_grown_none hg2
  obtain ⟨rb, hrb⟩ : ∃ rb, w1.heap.size = rb := ⟨_, rfl⟩
  rw [hrb] at hrg2 hz2 hyl hz1 ⊢
  have hMS2 := hMS0.keep hs2 (fun h => h)
  have hhas : ∀ s, has DS (slit s) = decide (stackOf l s ≠ []) := fun s => by
    rw [(hDS3 _ (slit_ok s)).1, HX.out.fs s]
    by_cases e : stackOf l s = [] <;> simp [e]
  have hSt0 : St (rb + 1) w2 l (has DS) (fun _ => (none, 0)) fs2 := by
    refine ⟨fun s => ?_, fun s q1 q2 => ?_, fun s s' k q1 q2 => ?_⟩
    · rw [hfs0 s, if_pos]
      by_cases e : stackOf l s = []
      · exact .inl e
      · right; rw [hhas s]; simpa using e
    · rw [hhas s] at q2; simp at q2; exact absurd q2 q1
    · rw [hhas s] at q2; simp at q2; exact absurd q2 q1
  have HY2 := Lib.hid (HY.out.keep hs2 (fun h => h))
  have HEO2 := Lib.hid (own_keep HEO.out hs2 (fun h => h))
  have HDO2 := Lib.hid (own_keep HDO.out hs2 (fun h => h))
  have hs02 : Step (fun _ => False) w w2 := hs1.same hs2
  clear hMS0 hfs0 HY HEO HDO hs1 hs2 hg2 hrb c2 hDS1 hhas
  go_frame
  go_loopw [4, 5] (fun _ _ wr => ∃ (left : Lit → Bool) (cnt n' m' : Nat) (ro2 : ByteArray → Option Addr × Nat) (f2 : Lit → Option Value), wr.ranges Try.prog 9 anyElem MS rb n2 DS left cnt ∧ n' + cnt ≤ m2 ∧ MG Try.prog 9 wr MS2 n' m' f2 ∧ St (rb + 1) wr l left ro2 f2 ∧ rb + 1 ≤ wr.heap.size ∧ Step (fun k => k = MS2 ∨ k = rb) w2 wr) (fun _ _ wr => wr.rangeLeft MS rb)
  case atStart => exact ⟨_, _, 0, k3, _, fs2, hrg2, by rw [hDS2]; omega, hMS2, hSt0, by omega, Step.refl _ _⟩
  case round =>
    clear hrg2 hMS2 hSt0
    obtain ⟨left, cnt, n', m', ro2, f2, hrg, hnc, hMS, hSt, hzr, hst⟩ := hrel
    go_wp2_with (at_next; refine wpList_next_ranges _ rfl _ rfl 9 msk anyElem Value.string (fun v => v) (fun key kl h => (str_inv h).imp (fun s h => h.1)) (fun v y h => ⟨v, rfl⟩) MS rb n2 _ _ _ rfl hrg ?_ ?_)
    · intro hc0 hl0
      have hw : Step (fun _ => False) w wr := hs02.trans hst (fun j hj e => by rcases e with e | e <;> omega)
      have hXr := HX.out.blk.keep hw (fun h => h)
      have d3 := hXr.cell (i := 3) rfl
      have hDOr := own_keep HDO2.out hst (fun e => by rcases e with e | e <;> omega)
      have HEOr := Lib.hid (own_keep HEO2.out hst (fun e => e.elim (fun e => hne.2.2.2.1 e.symm) (fun e => by omega)))
      have HYr := Lib.hid (HY2.out.keep hst (fun e => e.elim (fun e => hne.2.2.2.2.1 e) (fun e => by omega)))
      have HSt := Lib.hid hSt
      have HMS := Lib.hid hMS
      have HL0 := Lib.hid hl0
      clear hrg hMS hSt hl0 hXr
      go_upto_region 7 with (at_range; refine wpList_range_own _ rfl _ 36 rfl 3 9 mik Try.underlying36 _ MO n1 _ rfl hDOr ?_; intro w4 hrg4 hg4 hz4)
      have hs4 := step_of_grown_none hg4
      obtain ⟨rc, hrc⟩ : ∃ rc, wr.heap.size = rc := ⟨_, rfl⟩
      rw [hrc] at hrg4 hz4 hzr ⊢
      have HRC := Lib.hid hrc
      have HE4 := Lib.hid (own_keep HEOr.out hs4 (fun h => h))
      have HY4 := Lib.hid (HYr.out.keep hs4 (fun h => h))
      have HS4 := Lib.hid (HSt.out.keep hs4 (fun _ _ h => h))
      have HLT := Lib.hid (fun s (q : stackOf l s ≠ []) k (hk : blockOf (ro2 s).1 = some k) => (by have := ((HSt.out.row s q (HL0.out _)).1).lt hk; omega : k < rc))
      have HM4 := Lib.hid (HMS.out.keep hs4 (fun h => h))
      have hw4 := hw.same hs4
      clear hs4 hg4 hDOr HEOr HYr HSt HMS hrc d3 hw
      go_frame
      go_loopw [6, 7] (fun _ _ wq => ∃ (left2 : Lit → Bool) (cnt2 : Nat) (Dout : DataW Value), wq.ranges Try.prog 3 anyElem MO rc n1 DO left2 cnt2 ∧ cnt2 ≤ size DO ∧ wq.ownsMap Try.prog 3 anyElem MO2 (size DO - cnt2) Dout ∧ Agree Dout DO left2 ∧ rc + 1 ≤ wq.heap.size ∧ Step (fun k => k = MO2 ∨ k = rc) w4 wq) (fun _ _ wq => wq.rangeLeft MO rc)
      case atStart => exact ⟨_, _, .map [], hrg4, Nat.le_refl _, by rw [Nat.sub_self]; exact HE4.out, agree_start DO, by omega, Step.refl _ _⟩
      case round =>
        clear hrg4
        obtain ⟨left2, cnt2, Dout, hrq, hcs, hout, hA, hzq, hsq⟩ := hrel
        go_wp2_with (at_next; refine wpList_next_ranges _ rfl _ rfl 3 mik anyElem (Value.int .i64) (fun v => v) (fun key kl h => (int_inv h).imp (fun s h => h.1)) (fun v y h => ⟨v, rfl⟩) MO rc n1 _ _ _ rfl hrq ?_ ?_)
        · intro hd0 hm0
          subst hd0
          have e := agree_end hA hm0 (hout.canon mik) (hrq.owns.canon mik)
          subst e
          have hwq : Step (fun _ => False) w wr := hw4.trans hsq (fun j hj e => by rcases e with e | e <;> omega)
          have hXq := HX.out.blk.keep hwq (fun h => h)
          have d4 := hXq.cell (i := 4) rfl
          have HAC := Lib.hid (AgInt.clone_calls (HX.out.ag.same hwq) (by omega))
          have HYq := Lib.hid (HY4.out.keep hsq (fun e => e.elim (fun e => hne.2.2.2.2.2 e) (fun e => by omega)))
          have HSq := Lib.hid (fun w' (hs : Step (fun k => k = MO2 ∨ k = rc ∨ k = p2) w4 w') s (q : stackOf l s ≠ []) => ((HS4.out.row s q (HL0.out _)).1.keep hs (fun k hk e => by have h1 := HLT.out s q k hk; have h2 := (HS4.out.row s q (HL0.out _)).2 k hk; omega)))
          have HMq := Lib.hid (HM4.out.keep hsq (fun e => e.elim (fun e => hne.2.2.2.1 e) (fun e => by omega)))
          have HOq := Lib.hid hout
          have hrow : ∀ w8, Step (fun k => k = p2) wr w8 → Step (fun k => k = MO2 ∨ k = rc ∨ k = p2) w4 w8 := fun w8 h8 => (hsq.mono (fun _ _ e => e.imp id .inl)).same (h8.mono (fun _ _ e => .inr (.inr e)))
          have HROW := Lib.hid hrow
          have HWQ := Lib.hid hwq
          clear hrq hout hA hXq hrow hwq
          go_upto_region 11 with (go_at_call 57; refine HAC.out.mono ?_; rintro e7 w7 ⟨a3, F3, rfl, hA7, hs7, hF3⟩; have hY7 := HYq.out.keep hs7 (fun h => h); have f7 := hY7.free 4; have y7 := hY7.cell (i := 4) rfl)
          refine put_plain hY7 ?_
          intro w8 hY8 hs8
          have hw78 : Step (fun k => k = p2) wr w8 := (hs7.mono (fun _ _ h => h.elim)).same hs8
          have hz8 := hw78.size
          have hA8 := hA7.keep hs8 (fun k hk e => by have := hF3 k hk; omega)
          have hR8 := fun s q => HSq.out w8 (HROW.out w8 hw78) s q
          have hM8 := HMq.out.keep hw78 (fun e => hne.2.2.2.2.1 e.symm)
          have hO8 := own_keep HOq.out hw78 (fun e => hne.2.2.2.2.2 e.symm)
          have hfin : IdX w8 p2 a3 MS2 MO2 F3 most life l L ro2 t (size Dout - 0) n' m' fo f2 :=
            ⟨hY8, hA8, HX.out.pm, ⟨Dout, hO8, hDO2, hDO3⟩, HX.out.fo, hM8, fun s => by
              rw [HS4.out.fs s]
              have := HL0.out (slit s)
              by_cases e : stackOf l s = [] <;> simp [e, this], hR8, fun s s' k q1 q2 h1 h2 => HS4.out.sep s s' k q1 (HL0.out _) q2 (HL0.out _) h1 h2,
              fun s k q hk => (by
                have h1 := HLT.out s q k hk
                have h2 := (HS4.out.row s q (HL0.out _)).2 k hk
                exact ⟨fun h3 => by have := hF3 k h3; omega, by omega, by omega, by omega⟩),
              ⟨fun h => by have := hF3 _ h; omega, fun h => by have := hF3 _ h; omega, fun h => by have := hF3 _ h; omega, hne.2.2.2.1, hne.2.2.2.2.1, hne.2.2.2.2.2⟩, ⟨by omega, by omega⟩, HX.out.ok, HX.out.ndc, HX.out.inc⟩
          have hlow : ∀ k, ifoot p2 MS2 MO2 F3 l ro2 k → w.heap.size ≤ k ∧ k < w8.heap.size := fun k hk => by
            rcases hk with h | h | h | h | ⟨s, q, h⟩
            · omega
            · omega
            · omega
            · exact ⟨by have := hF3 k h; omega, hA8.lt h⟩
            · exact ⟨by have := (HS4.out.row s q (HL0.out _)).2 k h; omega, (hR8 s q).lt h⟩
          have HFIN := Lib.hid hfin
          have HLOW := Lib.hid hlow
          clear hfin hlow hA8 hR8 hM8 hO8 hY8 hA7
          go_wp2
          go_ret
          exact ⟨p2, fun k => ifoot p2 MS2 MO2 F3 l ro2 k, rfl, ⟨fun k hk => (HLOW.out k hk).2, a3, MS2, MO2, F3, L, ro2, _, n', m', fo, f2, HFIN.out, fun k hk => hk⟩, HWQ.out.trans hw78 (fun j hj e => by omega), fun k hk => (HLOW.out k hk).1⟩
        · intro x v kl yd yp w5 cnt3 hkey hlk hv hat hrq5 hlt5 hg5 hs5 hen
          obtain ⟨x', e1, rfl⟩ := int_inv hkey
          obtain rfl : x' = x := by cases e1; rfl
          have hs5' := step_of_grown' hg5
          have hout5 := own_keep hout hs5' (fun e => by omega)
          have hY5 := (HY4.out.keep hsq (fun e => e.elim (fun e => hne.2.2.2.2.2 e) (fun e => by omega))).keep hs5' (fun e => by omega)
          have d3 := hY5.cell (i := 3) rfl
          unfold anyElem at hv
          injection hv with hv
          injection hv with hv1 hv2
          subst hv1 hv2
          have HA := Lib.hid (agree_step hA hout.isMap (ilit_ok x') hat)
          have hmx : size DO - cnt2 ≤ 1000000 := by omega
          clear hat hA hout
          go_wp2_with (at_mapUpdate; refine wpList_mapUpdate_own _ rfl _ _ _ 36 rfl 3 9 mik Try.underlying36 _ MO2 _ _ rfl hout5 (by unfold maxLen; omega) _ _ _ rfl rfl hkey _ [] (rfl : anyElem v = some (.held v, [])) ?_; intro w6 hout6 hg6; go_frame)
          have hs6 := step_of_grown' hg6
          have hrq6 := ranges_keep hrq5 hs6 (fun e => by omega) (fun e => by omega)
          go_roundw
          case rel => exact ⟨_, cnt3, _, hrq6, by omega, hout6.mono (by omega), HA.out, by have := hs6.size; omega, (hsq.same (hs5'.mono (fun _ _ e => .inr e))).same (hs6.mono (fun _ _ e => .inl e))⟩
          case measure => rw [hrq6.left_eq, hrq.left_eq]; exact hlt5
    · intro s v kl yd yp w3 cnt3 hkey hlk hv hat hrg3 hlt3 hg3 hs3 hen
      obtain ⟨s', e1, rfl⟩ := str_inv hkey
      obtain rfl : s' = s := by injection e1 with e1; exact e1.symm
      have hs3' := step_of_grown' hg3
      unfold anyElem at hv
      injection hv with hv
      injection hv with hv1 hv2
      subst hv1 hv2
      have hfv : fs (slit s') = some v := some_of_at (fun z => by
        have h1 := hat (.held z)
        rw [(hDS3 _ (slit_ok s')).2 z] at h1
        injection h1)
      have hne0 : stackOf l s' ≠ [] := fun e => by rw [HX.out.fs s', if_pos e] at hfv; cases hfv
      rw [HX.out.fs s', if_neg hne0] at hfv
      obtain rfl := Option.some.inj hfv
      have hss : s'.size ≤ 1000 := by
        cases hst' : stackOf l s' with
        | nil => exact absurd hst' hne0
        | cons c r =>
          obtain ⟨o, ho, ho1, _⟩ := stack_mem.1 (by rw [hst']; exact List.mem_cons_self .. : c ∈ stackOf l s')
          rw [← ho1]
          exact (HX.out.ok o ho).1
      have hw3 : Step (fun _ => False) w w3 := (hs02.trans hst (fun j hj e => by rcases e with e | e <;> omega)).trans hs3' (fun j hj e => by omega)
      have hR3 := (HX.out.row s' hne0).keep hw3 (fun _ _ h => h)
      have hlen := hstk s'
      have HCL := Lib.hid (IntS.clone_calls (hR3.keep ((Step.refl (fun _ => False) w3).drew) (fun _ _ h => h)) (by omega))
      have hY3 := (HY2.out.keep hst (fun e => e.elim (fun e => hne.2.2.2.2.1 e) (fun e => by omega))).keep hs3' (fun e => by omega)
      have hM3 := hMS.keep hs3' (fun e => by omega)
      have hSt3 := hSt.keep hs3' (fun k hk e => by omega)
      have d2 := hY3.cell (i := 2) rfl
      have HS := Lib.hid (fun w' (hs : Step (fun k => k = MS2) w3 w') => (hY3.keep hs hne.2.2.2.2.1).cell (i := 2) rfl)
      have HUP := Lib.hid (fun w' (hs : Step (fun k => k = MS2) w3 w') (hM : MG Try.prog 9 w' MS2 n' m' f2) (v : Value) => (by
        obtain ⟨w6, q1, q2, q3⟩ := hM.put msk Try.underlying83 (by omega) v (slit_ok s') (mskey hss)
        exact ⟨w6, q1, ⟨_, q2⟩, q3⟩ : ∃ w6, (Instr.mapUpdate 83 (.map (some MS2)) (.string s') v).run Try.prog w' = .ok () w6 ∧ (∃ m6, MG Try.prog 9 w6 MS2 (n' + 1) m6 (putF f2 (slit s') v)) ∧ Step (· = MS2) w' w6))
      have HM3 := Lib.hid hM3
      have HST3 := Lib.hid hSt3
      have HRG3 := Lib.hid hrg3
      have HNE := Lib.hid hne0
      have hq4 : Step (fun k => k = MS2) w3 w3.drew := (Step.refl _ _).drew
      have hz3 := hs3'.size
      clear hat hrg3 hMS hSt hR3 hY3 hM3 hSt3 hne0
      go_upto_region 5 with (fail)
      go_region_held3 (fun w' => w'.cell? ⟨p2, 2, none⟩ = some (.map (some MS2))) (first | exact HS.out _ hq6 | exact HS.out _ hq5 | exact HS.out _ hq4 | go_keep)
        ((go_at_call 40; refine HCL.out.mono ?_; rintro e5 w5 ⟨A5, c5, rfl, hA5, hA5f, hs5⟩; have hq5 : Step (fun k => k = MS2) w3 w5 := hq4.same (hs5.mono (fun _ _ h => h.elim)); obtain ⟨w6, hup, hM6, hs6⟩ := HUP.out w5 hq5 (HM3.out.keep (F := fun _ => False) (((Step.refl (fun _ => False) w3).drew).same hs5) (fun h => h)) (.slice A5 (stackOf l s').length c5); have hq6 : Step (fun k => k = MS2) w3 w6 := hq5.same hs6))
      all_goals
        obtain ⟨m6, hM6⟩ := hM6
        have hrg6 := ranges_keep HRG3.out hq6 (fun e => by omega) (fun e => by omega)
        have hz6 := hq6.size
        have hS6 := HST3.out.next HNE.out hq6 (fun k hk _ e => by omega) (hA5.keep hs6 (fun k hk e => by have := hA5f k hk; have h3 : w3.drew.heap.size = w3.heap.size := rfl; omega)) (fun k hk => hA5f k hk) (by omega) hlk
        go_wp2
        go_roundw
        case rel => exact ⟨_, cnt3, n' + 1, m6, _, _, hrg6, by omega, hM6, hS6, by omega, (hst.same (hs3'.mono (fun _ _ e => .inr e))).same (hq6.mono (fun _ _ e => .inl e))⟩
        case measure => rw [hrg6.left_eq, hrg.left_eq]; exact hlt3
end Go.Proofs.Ytgohlbljdffelaa.Idl
