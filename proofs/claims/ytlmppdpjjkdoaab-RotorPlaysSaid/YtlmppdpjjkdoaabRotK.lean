/- rotor: the document's Pick. Own work of this seat. -/
import Derived.Test.YtlmppdpjjkdoaabRotJ
import Derived.Test.YtlmppdpjjkdoaabRot5
namespace Go.Proofs.Ytlmppdpjjkdoaab.Rot
open Go.RowKit Go.Proofs.Ytlmppdpjjkdoaab.Kit Go.Proofs.Ytlmppdpjjkdoaab.PRotorPlays Go.Proofs.YtlmppdpjjkdoaabW.PrintWords Go.Proofs.YtlmppdpjjkdoaabW.PrintLast Go.Proofs.YtlmppdpjjkdoaabW.PrintMore
set_option linter.unusedVariables false
set_option linter.unusedSimpArgs false

/-- A row of marks. -/
structure MRow (w : World) (A : Option Addr) (c : Nat) (x : List S49) : Prop where
  C : Kd.C k49 w A x.length x
  le : x.length ≤ c
  nd : (x.map S49.f0).Nodup
  sh : ∀ m ∈ x, m.f0.size ≤ 1000
  lt : ∀ k, blockOf A = some k → k < w.heap.size
theorem setP_nodup {l : List S49} (h : (l.map S49.f0).Nodup) (s : ByteArray) (n : Int) : ((setP l s n).map S49.f0).Nodup := by
  unfold setP
  rw [List.map_cons, List.nodup_cons]
  refine ⟨?_, ?_⟩
  · rintro h1
    obtain ⟨m, hm, he⟩ := List.mem_map.1 h1
    have := (List.mem_filter.1 hm).2
    simp [he] at this
  · exact List.Nodup.sublist (List.filter_sublist.map S49.f0) h
theorem keepP_nodup {l : List S49} (h : (l.map S49.f0).Nodup) (ns : List ByteArray) : ((keepP l ns).map S49.f0).Nodup := by
  unfold keepP
  exact List.Nodup.sublist (List.filter_sublist.map S49.f0) h
theorem setP_short {l : List S49} (h : ∀ m ∈ l, m.f0.size ≤ 1000) {s : ByteArray} (hs : s.size ≤ 1000) (n : Int) : ∀ m ∈ setP l s n, m.f0.size ≤ 1000 := by
  intro m hm
  unfold setP at hm
  rcases List.mem_cons.1 hm with rfl | hm
  · exact hs
  · exact h m (List.mem_filter.1 hm).1
theorem keepP_short {l : List S49} (h : ∀ m ∈ l, m.f0.size ≤ 1000) (ns : List ByteArray) : ∀ m ∈ keepP l ns, m.f0.size ≤ 1000 := by
  intro m hm
  unfold keepP at hm
  exact h m (List.mem_filter.1 hm).1
theorem MRow.keep {w w' : World} {A : Option Addr} {c : Nat} {x : List S49} (h : MRow w A c x) (hb : Below w.heap.size w w') : MRow w' A c x := ⟨Kd.C_below h.C hb, h.le, h.nd, h.sh, fun k hk => Nat.lt_of_lt_of_le (h.lt k hk) hb.size⟩
theorem MRow.still {w w' : World} {A : Option Addr} {c : Nat} {x : List S49} (h : MRow w A c x) (hb : Step (fun _ => False) w w') : MRow w' A c x := h.keep (hb.below (Nat.le_refl _) (fun _ h => h.elim))
theorem MRow.far {w w' : World} {A : Option Addr} {c : Nat} {x : List S49} {F : Nat → Prop} (h : MRow w A c x) (hs : Step F w w') (hF : ∀ k, blockOf A = some k → ¬ F k) : MRow w' A c x := by
  refine ⟨⟨h.C.1, h.C.2.1, fun hn => ?_⟩, h.le, h.nd, h.sh, fun k hk => Nat.lt_of_lt_of_le (h.lt k hk) hs.size⟩
  obtain ⟨ad, rfl, hc⟩ := h.C.2.2 hn
  refine ⟨ad, rfl, fun j p hj => ?_⟩
  obtain ⟨cs, hl, hK, hcell⟩ := hc j p hj
  refine ⟨cs, hl, hK, fun i u hi => ?_⟩
  have := hcell i u hi
  unfold World.cell? at this ⊢
  have e : (ad.add (j * Kd.sz k49 + i)).block = ad.block := by unfold Addr.add; split <;> rfl
  rw [e] at this ⊢
  have hlt : ad.block < w.heap.size := by
    by_cases hlt : ad.block < w.heap.size
    · exact hlt
    · rw [Array.getElem?_eq_none (by omega)] at this
      cases this
  rw [hs.block ad.block hlt (hF _ rfl)]
  exact this
theorem mrow_of {w : World} {base : Nat} {v : Value} {x : List S49} (h : Kd.R k49 49 w base (fun _ => True) v x) (hnd : (x.map S49.f0).Nodup) (hsh : ∀ m ∈ x, m.f0.size ≤ 1000) : ∃ A c, v = .slice A x.length c ∧ MRow w A c x ∧ ∀ k, blockOf A = some k → base ≤ k := by
  obtain ⟨A, c, hv, hle, hC⟩ := Kd.R_reads h
  have hov : ∀ k, blockOf A = some k → v.ownBlock = some k := fun k hk => by
    rw [hv]
    cases A with
    | none => cases hk
    | some a => exact hk
  obtain ⟨inner, ho⟩ := Kd.R_own h
  exact ⟨A, c, hv, ⟨hC, hle, hnd, hsh, fun k hk => Kd.R_lt h k (hov k hk)⟩, fun k hk => own_base ho k (hov k hk)⟩
theorem ofm_calls {w : World} {A : Option Addr} {c : Nat} {x : List S49} (h : MRow w A c x) (hl : x.length ≤ 1000000) (s : ByteArray) :
    Calls Try.prog 18 #[.slice A x.length c, .string s] w fun e w' => e = .returned (.int .i64 (ofP x s)) ∧ Step (fun _ => False) w w' :=
  (stewardref15_Of.calls _ A c x s _ w h.C h.le (of_is x s hl)).mono fun e w' h => ⟨h.1, Step.of_below h.2⟩
theorem setm_calls {w : World} {A : Option Addr} {c : Nat} {x : List S49} (h : MRow w A c x) (hl : x.length ≤ 1000000) (s : ByteArray) (n : Int) (hs : s.size ≤ 1000) :
    Calls Try.prog 43 #[.slice A x.length c, .string s, .int .i64 n] w fun e w' => ∃ A' c', e = .returned (.slice A' (setP x s n).length c') ∧ MRow w' A' c' (setP x s n) ∧ (∀ k, blockOf A' = some k → w.heap.size ≤ k) ∧ Step (fun _ => False) w w' :=
  (stewardref15_Set.calls _ A c x s n _ w h.C h.le (set_is x s n hl)).mono fun e w' h' => by
    have hnd := h.nd
    obtain ⟨v, hv, hR, hb⟩ := h'
    obtain ⟨A', c', rfl, hM, hf⟩ := mrow_of hR (setP_nodup hnd s n) (setP_short h.sh hs n)
    exact ⟨A', c', hv, hM, hf, Step.of_below hb⟩
theorem wtm_calls {w : World} (z : Int) : Calls Try.prog 44 #[.int .i64 z] w fun e w' => e = .returned (.int .i64 (wt z)) ∧ Step (fun _ => False) w w' :=
  (stewardref15_Weight.calls z (wt z) w rfl).mono fun e w' h => ⟨h.1, Step.of_below h.2⟩

/-- Whose mark is the greatest, of the first k (the first of them). -/
def bk (F : ByteArray → Int) (m : List (ByteArray × Int)) : Nat → ByteArray
  | 0 => (m.getD 0 (⟨#[]⟩, 0)).1
  | k + 1 => if F (m.getD k (⟨#[]⟩, 0)).1 > F (bk F m k) then (m.getD k (⟨#[]⟩, 0)).1 else bk F m k
theorem getD_short {m : List (ByteArray × Int)} (h : Short m) (k : Nat) : (m.getD k (⟨#[]⟩, 0)).1.size ≤ 1000 := by
  by_cases hk : k < m.length
  · have : m.getD k (⟨#[]⟩, 0) = m[k] := by simp [List.getD_eq_getElem?_getD, hk]
    rw [this]
    exact h _ (List.getElem_mem hk)
  · have : m.getD k (⟨#[]⟩, 0) = (⟨#[]⟩, 0) := by simp [List.getD_eq_getElem?_getD, List.getElem?_eq_none (by omega : m.length ≤ k)]
    rw [this]
    exact Nat.zero_le _
theorem bk_short {F : ByteArray → Int} {m : List (ByteArray × Int)} (h : Short m) : ∀ k, (bk F m k).size ≤ 1000
  | 0 => getD_short h 0
  | k + 1 => by
    unfold bk
    split
    · exact getD_short h k
    · exact bk_short h k

set_option maxRecDepth 100000 in
set_option maxHeartbeats 8000000 in
theorem rpick_calls {w : World} {A : Option Addr} {c : Nat} {x : List S49} {E : Option Addr} {cE : Nat} {l : List (ByteArray × Int)} (h : MRow w A c x) (hx : x.length ≤ 100000) (hE : ERow w E l) (hl : l.length ≤ 1000) (hl0 : l ≠ []) (hB : Bd 1000000000000 (ofP x)) (hsh : Short l) :
    Calls Try.prog 32 #[.slice A x.length c, .slice E l.length cE] w fun e w' => ∃ A' c' x', e = .returned (.tuple #[.slice A' x'.length c', .string (bk (pks (ofP x) (dd l l.length) (dd l l.length).length).f (dd l l.length) (dd l l.length).length), .bool true]) ∧ MRow w' A' c' x' ∧ x'.length ≤ x.length + l.length + 1 ∧
      ofP x' = upd (pks (ofP x) (dd l l.length) (dd l l.length).length).f (bk (pks (ofP x) (dd l l.length) (dd l l.length).length).f (dd l l.length) (dd l l.length).length) ((pks (ofP x) (dd l l.length) (dd l l.length).length).f (bk (pks (ofP x) (dd l l.length) (dd l l.length).length).f (dd l l.length) (dd l l.length).length) - (pks (ofP x) (dd l l.length) (dd l l.length).length).all) ∧ (∀ k, blockOf A' = some k → w.heap.size ≤ k) ∧ Step (fun _ => False) w w' := by
  have HO := ref_once_calls (c := cE) hE hl
  have hml : (dd l l.length).length ≤ l.length := dd_length _ _
  have hmsh : Short (dd l l.length) := fun e he => hsh e (dd_mem l l.length (Nat.le_refl _) e he)
  have hm0 : dd l l.length ≠ [] := dd_ne hl0
  generalize dd l l.length = m at *
  obtain ⟨f, hf0⟩ : ∃ f, ofP x = f := ⟨_, rfl⟩
  rw [hf0] at hB ⊢
  have hf := Lib.hid hf0
  clear hf0
  have hbd := Lib.hid (pks_bd hB (by omega) m hmsh)
  have hm1 : 0 < m.length := List.length_pos_iff.2 hm0
  obtain ⟨xl, hxl0⟩ : ∃ xl, x.length = xl := ⟨_, rfl⟩
  have hxl := Lib.hid hxl0
  rw [hxl0]
  rw [hxl0] at hx
  clear hxl0
  obtain ⟨F, hF0⟩ : ∃ F, (pks f m m.length).f = F := ⟨_, rfl⟩
  obtain ⟨al0, hAl0⟩ : ∃ a, (pks f m m.length).all = a := ⟨_, rfl⟩
  simp only [hF0, hAl0]
  have hbsh := bk_short (F := F) hmsh m.length
  obtain ⟨bst, hbst0⟩ : ∃ b, bk F m m.length = b := ⟨_, rfl⟩
  simp only [hbst0] at hbsh ⊢
  have hbsh := Lib.hid hbsh
  have hFF := Lib.hid hF0
  have hAA := Lib.hid hAl0
  have hBB := Lib.hid hbst0
  clear hF0 hAl0 hbst0
  go_enter Try.func32, Try.ntmps32
  go_upto_region 2 with (go_at_call 42; refine HO.mono ?_; rintro e1 w1 ⟨B, n, cB, rfl, hES, hBf, hb1⟩)
  have hn : m.length = n := hES.1
  have hs1 : Step (fun _ => False) w w1 := Step.of_below hb1
  have hM1 := h.still hs1
  have hnz : ((n : Int) == 0) = false := by simp; omega
  clear HO hb1
  subst hn
  go_wp2
  have hEB := hES.row
  have hxl1 : ∃ X : List S49, X = x ∧ X.length ≤ xl + 0 := ⟨x, rfl, by have := hxl.out; omega⟩
  go_loopw [0, 8, 22] (fun v0 v8 v22 wr => ∃ (k : Nat) (A : Option Addr) (c : Nat) (X : List S49), k ≤ m.length ∧ v22 = .int .i64 (k : Int) ∧ v0 = .slice A X.length c ∧ v8 = .int .i64 (pks f m k).all ∧ MRow wr A c X ∧ X.length ≤ xl + k ∧ ofP X = (pks f m k).f ∧ (k = 0 ∨ ∀ j, blockOf A = some j → w.heap.size ≤ j) ∧ Step (fun _ => False) w1 wr) (fun _ _ v _ => m.length - (intOf v).toNat)
  case atStart => exact ⟨0, A, c, x, by omega, rfl, by rw [hxl.out], rfl, hM1, by have := hxl.out; omega, hf.out, .inl rfl, Step.refl _ _⟩
  case round =>
    clear hxl1 hM1
    obtain ⟨k, A, c, X, hk, rfl, rfl, rfl, hM, hXl, hofX0, hA0, hS⟩ := hrel
    have hofX := Lib.hid hofX0
    have hA0 := Lib.hid hA0
    clear hofX0
    obtain ⟨hbk, ha0, ha1, _⟩ := hbd.out k hk
    have hEr := hEB.keep hS (fun _ _ h => h)
    by_cases hlt : k < m.length
    · have hlt' : (k : Int) < (m.length : Int) := by omega
      rcases hEr with h0 | ⟨ga, o, rfl, hcell⟩
      · exact absurd h0 hm0
      · obtain ⟨h1, h2⟩ := hcell k m[k] (List.getElem?_eq_getElem hlt)
        have hss := Lib.hid (hmsh _ (List.getElem_mem hlt))
        have hge : m.getD k (⟨#[]⟩, 0) = m[k] := by simp [List.getD_eq_getElem?_getD, hlt]
        have hnx : pks f m (k + 1) = pstep (pks f m k) k m[k] := by rw [← hge]; rfl
        have HNX := Lib.hid hnx
        clear hnx hge hcell
        generalize m[k] = e at *
        generalize pks f m k = q at *
        obtain ⟨s, z⟩ := e
        obtain ⟨fq, al, bs⟩ := q
        have hlo := wt_lo z
        have hhi := wt_hi z
        have hfs : -(1000000000000 + 65535 * (k : Int)) ≤ fq s ∧ fq s ≤ 1000000000000 + 65535 * (k : Int) := hbk s
        have hal : 0 ≤ al ∧ al ≤ 65535 * (k : Int) := ⟨ha0, ha1⟩
        have hofs : ofP X s = fq s := by rw [hofX.out]
        have HW0 := fun w => wtm_calls (w := w) z
        obtain ⟨W0, hW0⟩ : ∃ W0, wt z = W0 := ⟨_, rfl⟩
        rw [hW0] at hlo hhi
        simp only [hW0] at HW0
        have hW := Lib.hid hW0
        clear hW0
        have HOf0 := fun W (hW : Step (fun _ => False) wr W) => ofm_calls (hM.still hW) (by omega) s
        have HSet0 := fun W (hW : Step (fun _ => False) wr W) => setm_calls (hM.still hW) (by omega) s (fq s + W0) hss.out
        have hset : ofP (setP X s (fq s + W0)) = upd fq s (fq s + W0) := funext (fun t => by rw [ofP_set, hofX.out])
        have hsl := setP_length X s (fq s + W0)
        rw [hofs] at HOf0
        have HOf := Lib.hid HOf0
        have HSet := Lib.hid HSet0
        have HWt := Lib.hid HW0
        have hset := Lib.hid hset
        clear HOf0 HSet0 HW0 hofs hbk
        generalize setP X s (fq s + W0) = X6 at *
        go_upto_region 8 with (fail)
        refine alloc_next (cs := [.string s, .int .i64 z]) ?_
        intro w3 hE3 hs3
        have hwsz : w.heap.size ≤ wr.heap.size := Nat.le_trans hs1.size hS.size
        have hwr3 := hs3.size
        clear h1 h2
        generalize wr.heap.size = eb at *
        have HMK := Lib.hid (fun W (h : Step (fun _ => False) w3 W) => (show Step (fun _ => False) w3 W ∧ W.cell? ⟨eb, 0, none⟩ = some (.string s) ∧ W.cell? ⟨eb, 1, none⟩ = some (.int .i64 z) from ⟨h, (hE3.keep h (fun h => h)).cell (i := 0) rfl, (hE3.keep h (fun h => h)).cell (i := 1) rfl⟩))
        have hst0 : Step (fun _ => False) w3 w3 := Step.refl _ _
        have hwr : IntKind.i64.wrap (fq s + W0) = fq s + W0 := by rw [IntKind.wrap_i64]; omega
        go_region_held3 (fun W => Step (fun _ => False) w3 W ∧ W.cell? ⟨eb, 0, none⟩ = some (.string s) ∧ W.cell? ⟨eb, 1, none⟩ = some (.int .i64 z))
          ((refine HMK.out _ ?_; first | exact hst0 | exact hst0.drew | exact hst4 | exact hst5 | exact hst6))
          (first | (go_at_call 18; refine (HOf.out w3.drew (hs3.same hst0.drew)).mono ?_; rintro e4 w4 ⟨rfl, hs4⟩; have hst4 := hst0.drew.same hs4) | (go_at_call 44; refine (HWt.out w4).mono ?_; rintro e5 w5 ⟨rfl, hs5⟩; have hst5 := hst4.same hs5) | (go_at_call 43; refine (HSet.out w5 (hs3.same hst5)).mono ?_; rintro e6 w6 ⟨A6, c6, rfl, hM6, hf6, hs6⟩; have hst6 := hst5.same hs6))
        all_goals
          have hall : (pks f m (k + 1)).all = al + W0 := by rw [HNX.out, ← hW.out]; rfl
          have hff : (pks f m (k + 1)).f = upd fq s (fq s + W0) := by rw [HNX.out, ← hW.out]; rfl
          have hall := Lib.hid hall
          have hff := Lib.hid hff
          have hE6 := hE3.keep hst6 (fun h => h)
          have d1 := hE6.cell (i := 1) rfl
          have hwa : wrap64 (al + W0) = al + W0 := by unfold wrap64; omega
          have hw5 : w.heap.size ≤ w5.heap.size := by
            have := hst5.size
            omega
          clear HMK HOf HSet HNX hbd hwr hM hE3 hE6
          go_wp2_with (go_at_call 44; refine (HWt.out _).mono ?_; rintro e7 w7 ⟨rfl, hs7⟩)
          exact ⟨⟨k + 1, A6, c6, X6, by omega, by go_num, rfl, by rw [hall.out], hM6.still hs7, by omega, by rw [hset.out, hff.out], .inr (fun j hj => Nat.le_trans hw5 (hf6 j hj)), ((hS.same hs3).same hst6).same hs7⟩, by simp [intOf]; omega⟩
    · obtain rfl : k = m.length := by omega
      obtain ⟨g0, o0, hB0, hcell0⟩ : ∃ g o, B = some ⟨g, o, none⟩ ∧ ∀ i e, m[i]? = some e → w1.cell? ⟨g, o + i * 2, none⟩ = some (.string e.1) ∧ w1.cell? ⟨g, o + i * 2 + 1, none⟩ = some (.int .i64 e.2) := by
        rcases hEB with h0 | h0
        · exact absurd h0 hm0
        · exact h0
      subst hB0
      have hXpos : A ≠ none ∨ True := .inr trivial
      have hofX := Lib.hid (hofX.out.trans hFF.out)
      rw [hAA.out] at ha0 ha1
      rw [hFF.out] at hbk
      rw [hAA.out]
      obtain ⟨al, rfl⟩ : ∃ al, al = al0 := ⟨_, rfl⟩
      have hE2 := hEr
      rcases hE2 with h0 | ⟨g1, o1, e1, hcell⟩
      · exact absurd h0 hm0
      obtain ⟨rfl, rfl⟩ : g0 = g1 ∧ o0 = o1 := by simpa using e1
      have hc0 : wr.cell? ⟨g0, o0, none⟩ = some (.string (m[0]).1) := by simpa using (hcell 0 m[0] (List.getElem?_eq_getElem hm1)).1
      have hm1' : (0 : Int) < (m.length : Int) := by omega
      have hb0 : bk F m 0 = (m[0]).1 := by simp [bk, List.getD_eq_getElem?_getD, hm1]
      have hb0 := Lib.hid hb0
      have hcellH := Lib.hid hcell0
      have hcol := Lib.hid hofX
      have ha2 : 0 ≤ al ∧ al ≤ 65535 * (m.length : Int) := ⟨ha0, ha1⟩
      have hEH := Lib.hid hEB
      have hbF : Bd (1000000000000 + 65535 * (m.length : Int)) F := hbk
      have hbF := Lib.hid hbF
      clear hcell0 hcell hEr hEB hES h hbd hbk hcellH
      generalize (m[0]).1 = s0 at *
      have hOfF : ∀ W s, Step (fun _ => False) wr W → Calls Try.prog 18 #[.slice A X.length c, .string s] W fun e w' => e = .returned (.int .i64 (F s)) ∧ Step (fun _ => False) W w' := fun W s hW => by
        have := ofm_calls (hM.still hW) (by omega) s
        rw [hofX.out] at this
        exact this
      have HOf := Lib.hid hOfF
      clear hOfF hcol
      obtain ⟨nX, hnX0⟩ : ∃ nX, X.length = nX := ⟨_, rfl⟩
      have hnX := Lib.hid hnX0
      rw [hnX0] at HOf hXl
      simp only [hnX0]
      clear hnX0
      go_wp2
      go_loopw [11, 50] (fun v11 v50 wy => ∃ (k : Nat), k ≤ m.length ∧ v50 = .int .i64 (k : Int) ∧ v11 = .string (bk F m k) ∧ Step (fun _ => False) wr wy) (fun _ v _ => m.length - (intOf v).toNat)
      case atStart => exact ⟨0, by omega, rfl, by rw [hb0.out], Step.refl _ _⟩
      case round =>
        clear hc0
        obtain ⟨k, hk2, rfl, rfl, hS2⟩ := hrel
        by_cases hlt2 : k < m.length
        · have hlt2' : (k : Int) < (m.length : Int) := by omega
          rcases hEH.out.keep (hS.same hS2) (fun _ _ h => h) with h0 | ⟨g1, o1, e1, hcell⟩
          · exact absurd h0 hm0
          obtain ⟨rfl, rfl⟩ : g0 = g1 ∧ o0 = o1 := by simpa using e1
          obtain ⟨h1, h2⟩ := hcell k m[k] (List.getElem?_eq_getElem hlt2)
          have hge : m.getD k (⟨#[]⟩, 0) = m[k] := by simp [List.getD_eq_getElem?_getD, hlt2]
          have hnx : bk F m (k + 1) = if F (m[k]).1 > F (bk F m k) then (m[k]).1 else bk F m k := by rw [← hge]; rfl
          have HNX := Lib.hid hnx
          clear hnx hge hcell e1
          generalize m[k] = e at *
          obtain ⟨s, z⟩ := e
          generalize bk F m k = best at *
          go_upto_region 15 with (fail)
          refine alloc_next (cs := [.string s, .int .i64 z]) ?_
          intro w3 hE3 hs3
          clear h1 h2
          have x0 := hE3.cell (i := 0) rfl
          have H1 := HOf.out w3 s (hS2.same hs3)
          have H2 := fun w4 (h4 : Step (fun _ => False) w3 w4) => HOf.out w4 best ((hS2.same hs3).same h4)
          have H2 := Lib.hid H2
          by_cases hgt : F s > F best
          · have q := eq_true hgt
            have hbs : bk F m (k + 1) = s := by rw [HNX.out]; exact if_pos hgt
            have hbs := Lib.hid hbs
            clear HNX hgt
            go_wp2_with (first | (go_at_call_of 18 (Value.string s); refine H1.mono ?_; rintro e4 w4 ⟨rfl, hs4⟩) | (go_at_call_of 18 (Value.string best); refine (H2.out w4 hs4).mono ?_; rintro e5 w5 ⟨rfl, hs5⟩; have x5 := ((hE3.keep hs4 (fun h => h)).keep hs5 (fun h => h)).cell (i := 0) rfl))
            exact ⟨⟨k + 1, by omega, by go_num, by rw [hbs.out], ((hS2.same hs3).same hs4).same hs5⟩, by simp [intOf]; omega⟩
          · have q := eq_false hgt
            have hbs : bk F m (k + 1) = best := by rw [HNX.out]; exact if_neg hgt
            have hbs := Lib.hid hbs
            clear HNX hgt
            go_wp2_with (first | (go_at_call_of 18 (Value.string s); refine H1.mono ?_; rintro e4 w4 ⟨rfl, hs4⟩) | (go_at_call_of 18 (Value.string best); refine (H2.out w4 hs4).mono ?_; rintro e5 w5 ⟨rfl, hs5⟩; have x5 := ((hE3.keep hs4 (fun h => h)).keep hs5 (fun h => h)).cell (i := 0) rfl))
            exact ⟨⟨k + 1, by omega, by go_num, by rw [hbs.out], ((hS2.same hs3).same hs4).same hs5⟩, by simp [intOf]; omega⟩
        · obtain rfl : k = m.length := by omega
          have hbb : bk F m m.length = bst := hBB.out
          have hfb := hbF.out (bk F m m.length)
          rw [hbb] at hfb ⊢
          have hofs : ofP X = F := hofX.out
          have hset : ofP (setP X bst (F bst - al)) = upd F bst (F bst - al) := funext (fun t => by rw [ofP_set, hofs])
          have hset := Lib.hid hset
          have hsl := setP_length X bst (F bst - al)
          have HSet := fun W (hW : Step (fun _ => False) wr W) => setm_calls ((hM.still hS2).still hW) (by have := hnX.out; omega) bst (F bst - al) hbsh.out
          rw [hnX.out] at HSet hsl
          have HSet := Lib.hid HSet
          have H1 := HOf.out wr bst hS2
          clear hofs HOf
          generalize setP X bst (F bst - al) = X7 at *
          have hwr : wrap64 (F bst - al) = F bst - al := by unfold wrap64; omega
          go_wp2_with (first | (go_at_call 18; refine H1.mono ?_; rintro e4 w4 ⟨rfl, hs4⟩) | (go_at_call 43; refine (HSet.out w4 hs4).mono ?_; rintro e5 w5 ⟨A5, c5, rfl, hM5, hf5, hs5⟩))
          refine bodyPost_ret (results_tmp3 rfl _ _ _) rfl ?_
          have hst : Step (fun _ => False) w w4 := ((hs1.same hS).same hS2).same hs4
          exact ⟨A5, c5, X7, rfl, hM5, by omega, hset.out, fun k hk => Nat.le_trans hst.size (hf5 k hk), hst.same hs5⟩
end Go.Proofs.Ytlmppdpjjkdoaab.Rot
