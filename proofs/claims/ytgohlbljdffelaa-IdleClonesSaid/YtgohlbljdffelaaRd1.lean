/- the document's idle: rows of connections; Of, Drop. Own work of this seat; no condition but on lengths. -/
import Derived.Test.YtgohlbljdffelaaRSeg
import Derived.Test.YtgohlbljdffelaaIdlE
import Derived.StillTailTactics
namespace Go.Proofs.Ytgohlbljdffelaa.Rd
open Go.RowKit Go.Proofs.Ytgohlbljdffelaa.Kit Go.Proofs.Ytgohlbljdffelaa.IntS Go.Proofs.Ytgohlbljdffelaa
set_option linter.unusedVariables false
set_option linter.unusedSimpArgs false

theorem post_ct {P : Program} {fn : Func} {R : Ending → World → Prop} {p u : Tmp} {ty : TypeId} (h : fn.results = #[.cell p ty, .tmp u]) {a : Act} {w : World} {g : Nat} {T : TypeId} {cs : List Value} {d : TypeDesc} {v : Value} (hp : a.tmps.getD p undef = .pointer (some ⟨g, 0, none⟩)) (hE : Blk w g T cs)
    (hu : P.underlying ty = some d) (hd : (match d with | .struct _ | .array _ _ => true | _ => false) = true) (hi : (P.info? ty).map (·.size) = some cs.length) (hv : a.tmps.getD u undef = v) (hdef : a.defers = []) (hR : R (.returned (.tuple #[.agg cs.toArray, v])) w) : bodyPost P fn R .ret a w := by
  refine bodyPost_ret ?_ hdef hR
  have hr := run_loadVar_row (P := P) w g T ty cs.toArray (0, 0) d hE hu hd (by simpa using hi)
  have hp' : a.tmps[p]?.getD undef = .pointer (some ⟨g, 0, none⟩) := by simpa using hp
  have hv' : a.tmps[u]?.getD undef = v := by simpa using hv
  simp [results, h, hp', hv', asAddr, hr]
theorem post_c {P : Program} {fn : Func} {R : Ending → World → Prop} {p : Tmp} {ty : TypeId} (h : fn.results = #[.cell p ty]) {a : Act} {w : World} {g : Nat} {T : TypeId} {cs : List Value} {d : TypeDesc} (hp : a.tmps.getD p undef = .pointer (some ⟨g, 0, none⟩)) (hE : Blk w g T cs)
    (hu : P.underlying ty = some d) (hd : (match d with | .struct _ | .array _ _ => true | _ => false) = true) (hi : (P.info? ty).map (·.size) = some cs.length) (hdef : a.defers = []) (hR : R (.returned (.agg cs.toArray)) w) : bodyPost P fn R .ret a w := by
  refine bodyPost_ret ?_ hdef hR
  have hr := run_loadVar_row (P := P) w g T ty cs.toArray (0, 0) d hE hu hd (by simpa using hi)
  have hp' : a.tmps[p]?.getD undef = .pointer (some ⟨g, 0, none⟩) := by simpa using hp
  simp [results, h, hp', asAddr, hr]
theorem post_ctt {P : Program} {fn : Func} {R : Ending → World → Prop} {p u v : Tmp} {ty : TypeId} (h : fn.results = #[.cell p ty, .tmp u, .tmp v]) {a : Act} {w : World} {g : Nat} {T : TypeId} {cs : List Value} {d : TypeDesc} {vu vv : Value} (hp : a.tmps.getD p undef = .pointer (some ⟨g, 0, none⟩)) (hE : Blk w g T cs)
    (hu : P.underlying ty = some d) (hd : (match d with | .struct _ | .array _ _ => true | _ => false) = true) (hi : (P.info? ty).map (·.size) = some cs.length) (hvu : a.tmps.getD u undef = vu) (hvv : a.tmps.getD v undef = vv) (hdef : a.defers = []) (hR : R (.returned (.tuple #[.agg cs.toArray, vu, vv])) w) : bodyPost P fn R .ret a w := by
  refine bodyPost_ret ?_ hdef hR
  have hr := run_loadVar_row (P := P) w g T ty cs.toArray (0, 0) d hE hu hd (by simpa using hi)
  have hp' : a.tmps[p]?.getD undef = .pointer (some ⟨g, 0, none⟩) := by simpa using hp
  have hu' : a.tmps[u]?.getD undef = vu := by simpa using hvu
  have hv' : a.tmps[v]?.getD undef = vv := by simpa using hvv
  simp [results, h, hp', hu', hv', asAddr, hr]

/-- A connection, as the document says it. -/
structure O3 where
  nm : ByteArray
  conn : Int
  tm : Int
def oc (x : O3) : List Value := [.string x.nm, .int .i64 x.conn, .int .i64 x.tm]
def ocs (l : List O3) : List Value := l.flatMap oc
theorem ocs_append (l r : List O3) : ocs (l ++ r) = ocs l ++ ocs r := by simp [ocs]
theorem ocs_one (x : O3) : ocs [x] = oc x := by simp [ocs]
theorem ocs_length (l : List O3) : (ocs l).length = l.length * 3 := by
  induction l with
  | nil => rfl
  | cons x r ih => simp only [ocs, oc, List.flatMap_cons, List.length_append, List.length_cons, List.length_nil] at ih ⊢; omega
theorem ocs_at {l : List O3} {j : Nat} {e : O3} (h : l[j]? = some e) : ∀ (i : Nat) (v : Value), (oc e)[i]? = some v → (ocs l)[j * 3 + i]? = some v := by
  have hl := (List.getElem?_eq_some_iff.1 h).1
  have e1 : ocs l = ocs (l.take j) ++ (oc e ++ ocs (l.drop (j + 1))) := by
    have h2 : l[j] = e := (List.getElem?_eq_some_iff.1 h).2
    have h3 : l = l.take j ++ (e :: l.drop (j + 1)) := by rw [← h2, ← List.drop_eq_getElem_cons hl, List.take_append_drop]
    have h4 := congrArg ocs h3
    rw [ocs_append] at h4
    exact h4
  have e2 : (ocs (l.take j)).length = j * 3 := by rw [ocs_length, List.length_take, Nat.min_eq_left (Nat.le_of_lt hl)]
  intro i v hv
  have hi := (List.getElem?_eq_some_iff.1 hv).1
  rw [e1, List.getElem?_append_right (by omega), e2, Nat.add_sub_cancel_left, List.getElem?_append_left hi]
  exact hv
theorem oc_cell (x : O3) : ∀ v ∈ oc x, v.oneCell' = true := by
  intro v hv
  simp only [oc, List.mem_cons, List.not_mem_nil, or_false] at hv
  rcases hv with rfl | rfl | rfl <;> rfl
def DW (w : World) (A : Option Addr) (n c : Nat) (l : List O3) : Prop := FSeg w 114 3 A n c (ocs l)
section
variable {w w' : World} {A : Option Addr} {n c : Nat} {l : List O3} {F : Nat → Prop}
theorem DW.len (h : DW w A n c l) : l.length = n := by have := h.1; rw [ocs_length] at this; omega
theorem DW.keep (h : DW w A n c l) (hs : Step F w w') (hF : ∀ j, blockOf A = some j → ¬ F j) : DW w' A n c l := FSeg.keep h hs hF
theorem DW.same (h : DW w A n c l) (hs : Step (fun _ => False) w w') : DW w' A n c l := FSeg.keep h hs (fun _ _ h => h)
theorem DW.lt (h : DW w A n c l) {j : Nat} (hj : blockOf A = some j) : j < w.heap.size := FSeg.lt h hj
theorem DW.cells {g : Nat} (h : DW w (some ⟨g, 0, none⟩) n c l) {j : Nat} {e : O3} (he : l[j]? = some e) :
    w.cell? ⟨g, j * 3, none⟩ = some (.string e.nm) ∧ w.cell? ⟨g, j * 3 + 1, none⟩ = some (.int .i64 e.conn) ∧ w.cell? ⟨g, j * 3 + 2, none⟩ = some (.int .i64 e.tm) :=
  ⟨by have := FSeg.cell h (ocs_at he 0 _ rfl); simpa using this, FSeg.cell h (ocs_at he 1 _ rfl), FSeg.cell h (ocs_at he 2 _ rfl)⟩
end
theorem dw_nil (w : World) : DW w none 0 0 [] := fseg_nil _ _ _
theorem i0o : ∃ i, Try.prog.info? 114 = some i ∧ i.zero = some (.agg #[.string ⟨#[]⟩, .int .i64 0, .int .i64 0]) ∧ i.size = 3 ∧ i.bytes = 32 := by
  obtain ⟨i, hi, hp⟩ := Option.map_eq_some_iff.1 (by kernel_rfl : (Try.prog.info? 114).map (fun i => (i.zero, i.size, i.bytes)) = some (some (.agg #[.string ⟨#[]⟩, .int .i64 0, .int .i64 0]), 3, 32))
  simp only [Prod.mk.injEq] at hp
  exact ⟨i, hi, hp⟩
/-- One more in a row of the call's own. -/
theorem app_o {w w1 : World} {B : Option Addr} {m cB : Nat} {l : List O3} (hst : Step (fun _ => False) w w1) (hB : DW w1 B m cB l) (hBf : ∀ k, blockOf B = some k → w.heap.size ≤ k) (hb : m + 1 ≤ 1000000) (o : O3) :
    ∃ B' c' w', (Builtin.append_ #[55, 55] 55 #[.slice B m cB, .slice (some ⟨w1.heap.size, 0, none⟩) 1 1]).run Try.prog (w1.alloc (.cells #[.string o.nm, .int .i64 o.conn, .int .i64 o.tm] 114)) = .ok (.slice B' (m + 1) c') w' ∧
      DW w' B' (m + 1) c' (l ++ [o]) ∧ (∀ k, blockOf B' = some k → w.heap.size ≤ k) ∧ Step (fun _ => False) w w' ∧ Step (fun k => blockOf B = some k) w1 w' := by
  obtain ⟨i0, hi0, hz0, hs0, hy0⟩ := i0o
  have hal : Step (fun _ => False) w1 (w1.alloc (.cells #[.string o.nm, .int .i64 o.conn, .int .i64 o.tm] 114)) := (Step.refl _ _).alloc _
  obtain ⟨B5, c5, w5, hap, hB6, hs5, hn5⟩ := run_app_one (k := 3) (v := oc o) 55 114 Try.underlying55 hi0 hz0 rfl hs0 hy0 (by omega) (hB.same hal) rfl (oc_cell o) (blk_new w1 (oc o) 114) hb
  have hz4 := hst.size
  have hz6 := hal.size
  refine ⟨B5, c5, w5, hap, by unfold DW; rw [ocs_append, ocs_one]; exact hB6, fun k hk => ?_, (hst.same hal).trans hs5 (fun j hj h => by have := hBf j h; omega), (hal.mono (fun _ _ h => h.elim)).same hs5⟩
  rcases hn5 with e | ⟨j, e, hj⟩
  · exact hBf k (e ▸ hk)
  · rw [hk] at e
    obtain rfl := Option.some.inj e
    omega
/-- One number more in a row of the call's own. -/
theorem app_i {w w1 : World} {B : Option Addr} {m cB : Nat} {l : List Int} (hst : Step (fun _ => False) w w1) (hB : ISeg w1 B m cB l) (hBf : ∀ k, blockOf B = some k → w.heap.size ≤ k) (hb : m ≤ 900000) (x : Int) :
    ∃ B' c' w', (Builtin.append_ #[40, 40] 40 #[.slice B m cB, .slice (some ⟨w1.heap.size, 0, none⟩) 1 1]).run Try.prog (w1.alloc (.cells #[.int .i64 x] 3)) = .ok (.slice B' (m + 1) c') w' ∧
      ISeg w' B' (m + 1) c' (l ++ [x]) ∧ (∀ k, blockOf B' = some k → w.heap.size ≤ k) ∧ Step (fun _ => False) w w' ∧ Step (fun k => blockOf B = some k) w1 w' := by
  have hal : Step (fun _ => False) w1 (w1.alloc (.cells #[.int .i64 x] 3)) := (Step.refl _ _).alloc _
  obtain ⟨B5, c5, w5, hap, hB6, hs5, hn5⟩ := Idl.run_app1 (hB.keep hal (fun _ _ h => h)) (blk_new w1 [.int .i64 x] 3) hb
  have hz4 := hst.size
  have hz6 := hal.size
  refine ⟨B5, c5, w5, hap, hB6, fun k hk => ?_, (hst.same hal).trans hs5 (fun j hj h => by have := hBf j h; omega), (hal.mono (fun _ _ h => h.elim)).same hs5⟩
  rcases hn5 with e | ⟨j, e, hj⟩
  · exact hBf k (e ▸ hk)
  · rw [hk] at e
    obtain rfl := Option.some.inj e
    omega
theorem bytes_ne {t s : ByteArray} (h : t ≠ s) : (t.toList == s.toList) = false := by
  rw [← beq_toListBytes]
  cases t with | mk a => cases s with | mk b =>
    have hab : a ≠ b := fun e => h (by rw [e])
    show (a == b) = false
    exact beq_eq_false_iff_ne.2 hab

def dropD (l : List O3) (c : Int) : List O3 := l.filter (fun o => decide (o.conn ≠ c))
def ofD (l : List O3) (s : ByteArray) : List Int := (l.filter (fun o => decide (o.nm = s))).map (·.conn)
theorem dropD_take {l : List O3} {c : Int} {i : Nat} {x : O3} (h : l[i]? = some x) : dropD (l.take (i + 1)) c = dropD (l.take i) c ++ (if x.conn = c then [] else [x]) := by
  unfold dropD
  rw [List.take_add_one, h, List.filter_append]
  by_cases e : x.conn = c <;> simp [e]
theorem ofD_take {l : List O3} {s : ByteArray} {i : Nat} {x : O3} (h : l[i]? = some x) : ofD (l.take (i + 1)) s = ofD (l.take i) s ++ (if x.nm = s then [x.conn] else []) := by
  unfold ofD
  rw [List.take_add_one, h, List.filter_append, List.map_append]
  by_cases e : x.nm = s <;> simp [e]
theorem dropD_le (l : List O3) (c : Int) : (dropD l c).length ≤ l.length := List.length_filter_le _ _
theorem ofD_le (l : List O3) (s : ByteArray) : (ofD l s).length ≤ l.length := by unfold ofD; rw [List.length_map]; exact List.length_filter_le _ _

set_option maxRecDepth 100000 in
set_option maxHeartbeats 1000000 in
theorem of_calls {w : World} {A : Option Addr} {n cA : Nat} {l : List O3} (most life : Int) (h : DW w A n cA l) (hmax : n ≤ 100000) (s : ByteArray) :
    Calls Try.prog 51 #[.agg #[.int .i64 most, .int .i64 life, .slice A n cA], .string s] w fun e w' => ∃ B cB, e = .returned (.slice B (ofD l s).length cB) ∧ ISeg w' B (ofD l s).length cB (ofD l s) ∧ (∀ k, blockOf B = some k → w.heap.size ≤ k) ∧ Step (fun _ => False) w w' := by
  have hlen := h.len
  have HH := Lib.hid h
  have HLN := Lib.hid hlen
  clear h hlen
  go_enter Try.func51, Try.ntmps51
  go_upto_region 1 with (fail)
  refine alloc_next (cs := [.int .i64 most, .int .i64 life, .slice A n cA]) ?_
  intro w1 hX hs1
  have hH1 := HH.out.same hs1
  have HH1 := Lib.hid hH1
  have x2 := hX.cell (i := 2) rfl
  have hz1 := hs1.size
  obtain ⟨xb, hxb⟩ : ∃ xb, w.heap.size = xb := ⟨_, rfl⟩
  rw [hxb] at hX x2 ⊢
  have HXB := Lib.hid hxb
  clear hxb hH1
  go_upto_region 2 with (fail)
  have hB0 : ISeg (w1.alloc (.cells #[] 3)) (some ⟨w1.heap.size, 0, none⟩) 0 0 [] := ⟨rfl, .inr ⟨w1.heap.size, #[], rfl, by show (w1.heap.push _)[w1.heap.size]? = _; simp, Nat.le_refl _, Nat.le_refl _, fun j v hj => by simp [ic] at hj⟩⟩
  have hs0 : Step (fun _ => False) w1 (w1.alloc (.cells #[] 3)) := (Step.refl _ _).alloc _
  have x2' := (hX.alloc (.cells #[] 3)).cell (i := 2) rfl
  generalize hw0 : w1.alloc (.cells #[] 3) = w0 at *
  have hf0 : ∀ k, blockOf (some (⟨w1.heap.size, 0, none⟩ : Addr)) = some k → w1.heap.size ≤ k := fun k hk => by
    obtain rfl : w1.heap.size = k := Option.some.inj hk
    exact Nat.le_refl _
  clear hw0 x2
  generalize (some (⟨w1.heap.size, 0, none⟩ : Addr)) = A0 at *
  go_wp2
  go_loopw [5, 12] (fun v5 v12 wr => ∃ (i m : Nat) (B : Option Addr) (cB : Nat), v12 = .int .i64 (i : Int) ∧ v5 = .slice B m cB ∧ i ≤ n ∧ m = (ofD (l.take i) s).length ∧ m ≤ i ∧ ISeg wr B m cB (ofD (l.take i) s) ∧ (∀ k, blockOf B = some k → w1.heap.size ≤ k) ∧ Step (fun _ => False) w1 wr) (fun _ v _ => n - (intOf v).toNat)
  case atStart => exact ⟨0, 0, A0, 0, rfl, rfl, Nat.zero_le _, rfl, Nat.le_refl _, hB0, hf0, hs0⟩
  case round =>
    clear hB0 hf0 hs0 x2'
    obtain ⟨i, m, B, cB, rfl, rfl, hi, hm, hmi, hB, hBf, hst⟩ := hrel
    by_cases hin : i < n
    · have hin' : ((i : Int) < (n : Int)) := by omega
      have hR := HH1.out.same hst
      obtain ⟨g, rfl⟩ := FSeg.isSome hR (by omega)
      obtain ⟨x, hx⟩ : ∃ x, l[i]? = some x := ⟨_, List.getElem?_eq_getElem (by rw [HLN.out]; exact hin)⟩
      obtain ⟨a0, a1, a2⟩ := hR.cells hx
      have HTK := Lib.hid (ofD_take (s := s) hx)
      obtain ⟨xk, xc, xt⟩ := x
      simp only at a0 a1 a2 HTK
      have HM := Lib.hid hm
      clear hR hx hm
      go_upto_region 5 with (fail)
      refine alloc_next (cs := [.string xk, .int .i64 xc, .int .i64 xt]) ?_
      intro w2 hE hs2
      have hst1 := hst.same hs2
      have hB1 := hB.keep hs2 (fun _ _ h => h)
      have e0 := hE.cell (i := 0) rfl
      clear a0 a1 a2 hB
      generalize wr.heap.size = eb at *
      by_cases hk : xk = s
      · have hsa : (xk.toList == s.toList) = true := by rw [hk]; simp
        have HT : Hid (ofD (l.take (i + 1)) s = ofD (l.take i) s ++ [xc]) := Lib.hid (by rw [HTK.out, if_pos hk])
        have e1 := hE.cell (i := 1) rfl
        clear hk HTK
        go_upto_region 6 with (fail)
        obtain ⟨B5, c5, w5, hap, hB6, hB5f, hst5, hks5⟩ := app_i hst1 hB1 hBf (by omega) xc
        have HB6 := Lib.hid hB6
        have HST5 := Lib.hid hst5
        clear hB6 hst5 hks5 hB1
        go_wp2_with (at_builtin; refine wpList_app1 (by rfl) (.tmp 20) (.tmp 23) 40 (by rfl) (by rfl) (by rfl) hap ?_)
        go_roundw
        case rel => exact ⟨i + 1, m + 1, B5, c5, by go_num, rfl, by omega, by rw [HT.out, List.length_append, ← HM.out]; rfl, by omega, by rw [HT.out]; exact HB6.out, hB5f, HST5.out⟩
        case measure => simp [intOf]; omega
      · have hsa : (xk.toList == s.toList) = false := bytes_ne hk
        have HT : Hid (ofD (l.take (i + 1)) s = ofD (l.take i) s) := Lib.hid (by rw [HTK.out, if_neg hk, List.append_nil])
        have HB1 := Lib.hid hB1
        clear hk HTK hB1
        go_wp2
        go_roundw
        case rel => exact ⟨i + 1, m, B, cB, by go_num, rfl, by omega, by rw [HT.out]; exact HM.out, by omega, by rw [HT.out]; exact HB1.out, hBf, hst1⟩
        case measure => simp [intOf]; omega
    · obtain rfl : i = n := by omega
      have hin' : ¬ ((i : Int) < (i : Int)) := by omega
      rw [List.take_of_length_le (by rw [HLN.out]; exact Nat.le_refl _)] at hB hm
      have HM := Lib.hid hm
      have HB := Lib.hid hB
      clear hm hB
      go_wp2
      go_ret
      have hw := HXB.out
      exact ⟨B, cB, by rw [← HM.out]; rfl, by rw [← HM.out]; exact HB.out, fun k hk => by have := hBf k hk; omega, hs1.same hst⟩

set_option maxRecDepth 100000 in
set_option maxHeartbeats 1000000 in
theorem drop_calls {w : World} {A : Option Addr} {n cA : Nat} {l : List O3} (most life : Int) (h : DW w A n cA l) (hmax : n ≤ 100000) (c : Int) :
    Calls Try.prog 50 #[.agg #[.int .i64 most, .int .i64 life, .slice A n cA], .int .i64 c] w fun e w' => ∃ B cB, e = .returned (.tuple #[.agg #[.int .i64 most, .int .i64 life, .slice B (dropD l c).length cB], .bool (decide ((dropD l c).length < n))]) ∧ DW w' B (dropD l c).length cB (dropD l c) ∧ (∀ k, blockOf B = some k → w.heap.size ≤ k) ∧ Step (fun _ => False) w w' := by
  have hlen := h.len
  have HH := Lib.hid h
  have HLN := Lib.hid hlen
  clear h hlen
  go_enter Try.func50, Try.ntmps50
  go_upto_region 1 with (fail)
  refine alloc_next2 (cs := [.int .i64 most, .int .i64 life, .slice A n cA]) (ds := [.int .i64 0, .int .i64 0, .slice none 0 0]) ?_
  intro w1 hX hR1 hs1 hl1
  have hH1 := HH.out.same hs1
  have HH1 := Lib.hid hH1
  have x2 := hX.cell (i := 2) rfl
  have hz1 := hs1.size
  obtain ⟨xb, hxb⟩ : ∃ xb, w.heap.size = xb := ⟨_, rfl⟩
  rw [hxb] at hX hR1 x2 ⊢
  have HXB := Lib.hid hxb
  clear hH1
  go_upto_region 2 with (fail)
  have hB0 : DW (w1.alloc (.cells #[] 114)) (some ⟨w1.heap.size, 0, none⟩) 0 0 [] := ⟨rfl, .inr ⟨w1.heap.size, #[], rfl, by show (w1.heap.push _)[w1.heap.size]? = _; simp, Nat.le_refl _, Nat.le_refl _, fun j v hj => by simp [ocs] at hj⟩⟩
  have hs0 : Step (fun _ => False) w1 (w1.alloc (.cells #[] 114)) := (Step.refl _ _).alloc _
  have x2' := (hX.alloc (.cells #[] 114)).cell (i := 2) rfl
  generalize hw0 : w1.alloc (.cells #[] 114) = w0 at *
  have hf0 : ∀ k, blockOf (some (⟨w1.heap.size, 0, none⟩ : Addr)) = some k → w1.heap.size ≤ k := fun k hk => by
    obtain rfl : w1.heap.size = k := Option.some.inj hk
    exact Nat.le_refl _
  clear hw0 x2
  generalize (some (⟨w1.heap.size, 0, none⟩ : Addr)) = A0 at *
  go_wp2
  go_loopw [6, 14] (fun v6 v14 wr => ∃ (i m : Nat) (B : Option Addr) (cB : Nat), v14 = .int .i64 (i : Int) ∧ v6 = .slice B m cB ∧ i ≤ n ∧ m = (dropD (l.take i) c).length ∧ m ≤ i ∧ DW wr B m cB (dropD (l.take i) c) ∧ (∀ k, blockOf B = some k → w1.heap.size ≤ k) ∧ Step (fun _ => False) w1 wr) (fun _ v _ => n - (intOf v).toNat)
  case atStart => exact ⟨0, 0, A0, 0, rfl, rfl, Nat.zero_le _, rfl, Nat.le_refl _, hB0, hf0, hs0⟩
  case round =>
    clear hB0 hf0 hs0 x2'
    obtain ⟨i, m, B, cB, rfl, rfl, hi, hm, hmi, hB, hBf, hst⟩ := hrel
    by_cases hin : i < n
    · have hin' : ((i : Int) < (n : Int)) := by omega
      have hR := HH1.out.same hst
      obtain ⟨g, rfl⟩ := FSeg.isSome hR (by omega)
      obtain ⟨x, hx⟩ : ∃ x, l[i]? = some x := ⟨_, List.getElem?_eq_getElem (by rw [HLN.out]; exact hin)⟩
      obtain ⟨a0, a1, a2⟩ := hR.cells hx
      have HTK := Lib.hid (dropD_take (c := c) hx)
      obtain ⟨xk, xc, xt⟩ := x
      simp only at a0 a1 a2 HTK
      have HM := Lib.hid hm
      clear hR hx hm
      go_upto_region 5 with (fail)
      refine alloc_next (cs := [.string xk, .int .i64 xc, .int .i64 xt]) ?_
      intro w2 hE hs2
      have hst1 := hst.same hs2
      have hB1 := hB.keep hs2 (fun _ _ h => h)
      have e1 := hE.cell (i := 1) rfl
      clear a0 a1 a2 hB
      generalize wr.heap.size = eb at *
      by_cases hk : xc = c
      · have hsa : (xc != c) = false := by rw [hk]; simp
        have HT : Hid (dropD (l.take (i + 1)) c = dropD (l.take i) c) := Lib.hid (by rw [HTK.out, if_pos hk, List.append_nil])
        have HB1 := Lib.hid hB1
        clear hk HTK hB1
        go_wp2
        go_roundw
        case rel => exact ⟨i + 1, m, B, cB, by go_num, rfl, by omega, by rw [HT.out]; exact HM.out, by omega, by rw [HT.out]; exact HB1.out, hBf, hst1⟩
        case measure => simp [intOf]; omega
      · have hsa : (xc != c) = true := by simpa using hk
        have HT : Hid (dropD (l.take (i + 1)) c = dropD (l.take i) c ++ [⟨xk, xc, xt⟩]) := Lib.hid (by rw [HTK.out, if_neg hk])
        have e0 := hE.cell (i := 0) rfl
        have e2 := hE.cell (i := 2) rfl
        clear hk HTK
        go_upto_region 6 with (fail)
        obtain ⟨B5, c5, w5, hap, hB6, hB5f, hst5, hks5⟩ := app_o hst1 hB1 hBf (by omega) ⟨xk, xc, xt⟩
        have HB6 := Lib.hid hB6
        have HST5 := Lib.hid hst5
        clear hB6 hst5 hks5 hB1
        go_wp2_with (at_builtin; refine wpList_app1 (by rfl) (.tmp 22) (.tmp 24) 55 (by rfl) (by rfl) (by rfl) hap ?_)
        go_roundw
        case rel => exact ⟨i + 1, m + 1, B5, c5, by go_num, rfl, by omega, by rw [HT.out, List.length_append, ← HM.out]; rfl, by omega, by rw [HT.out]; exact HB6.out, hB5f, HST5.out⟩
        case measure => simp [intOf]; omega
    · obtain rfl : i = n := by omega
      have hin' : ¬ ((i : Int) < (i : Int)) := by omega
      rw [List.take_of_length_le (by rw [HLN.out]; exact Nat.le_refl _)] at hB hm
      have HM := Lib.hid hm
      have HB := Lib.hid hB
      have hXr := hX.keep hst (fun h => h)
      have hRr := hR1.keep hst (fun h => h)
      have x2 := hXr.cell (i := 2) rfl
      have f2 := hXr.free 2
      have hzr := hst.size
      have HBR := Lib.hid (fun k (hk : blockOf B = some k) => (DW.lt hB hk : k < wr.heap.size))
      have hdec : decide ((m : Int) < (i : Int)) = decide (m < i) := by simp
      clear hm hB
      go_upto_region 10 with (fail)
      refine put_plain hXr ?_
      intro w8 hX8 hs8
      have x0 := hX8.cell (i := 0) rfl
      have x1 := hX8.cell (i := 1) rfl
      have x2' := hX8.cell (i := 2) rfl
      have hR8 := hRr.keep hs8 (fun h => by omega)
      clear x2 f2
      go_wp2_with (refine wpList_store_blk rfl 57 (.tmp 4) (.tmp 35) rfl hR8 rfl (vs := [.int .i64 most, .int .i64 life, .slice B m cB]) rfl (by kernel_rfl) rfl (fun v hv => by simp only [List.mem_cons, List.not_mem_nil, or_false] at hv; rcases hv with rfl | rfl | rfl <;> rfl) ?_; intro w9 hZ9 hs9)
      try simp only [Exit.inBlock, Exit.then]
      refine post_ct (cs := [.int .i64 most, .int .i64 life, .slice B m cB]) rfl rfl hZ9 Try.underlying57 rfl (by kernel_rfl) rfl rfl ?_
      have hw := HXB.out
      have hB9 : DW w9 B m cB (dropD l c) := (HB.out.keep hs8 (fun k hk e => by have := hBf k hk; omega)).keep hs9 (fun k hk e => by have := hBf k hk; omega)
      exact ⟨B, cB, by rw [← HM.out]; simp, by rw [← HM.out]; exact hB9, fun k hk => by have := hBf k hk; omega, ((hs1.same hst).trans hs8 (fun j hj e => by omega)).trans hs9 (fun j hj e => by omega)⟩
end Go.Proofs.Ytgohlbljdffelaa.Rd
