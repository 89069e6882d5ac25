/- the document's health: rows of who is there; Find, put. Own work of this seat; no condition but on lengths. -/
import Derived.Test.YtghiklaeenhljaaIt20
import Derived.Test.YtghiklaeenhljaaMHealthEpochs2
import Derived.Sort.Walk0
import Derived.Laws.Cover1
namespace Go.Proofs.Ytghiklaeenhljaa.HeD
open Go.RowKit Go.Proofs.Ytghiklaeenhljaa.Kit Go.Proofs.Ytghiklaeenhljaa.It Go.Proofs.Ytghiklaeenhljaa.Hea Go.Proofs.Ytghiklaeenhljaa
set_option linter.unusedVariables false
set_option linter.unusedSimpArgs false

/-- Somebody, as the document says it. -/
structure Oe where
  nm : ByteArray
  pb : Pb
  waits : Bool
def onc (o : Oe) : List Value := [.string o.nm, .bool o.pb.up, .int .i64 o.pb.good, .int .i64 o.pb.bad, .int .i64 o.pb.since, .bool o.waits]
def oncs (l : List Oe) : List Value := l.flatMap onc
theorem oncs_append (l r : List Oe) : oncs (l ++ r) = oncs l ++ oncs r := by simp [oncs]
theorem oncs_one (x : Oe) : oncs [x] = onc x := by simp [oncs]
theorem oncs_length (l : List Oe) : (oncs l).length = l.length * 6 := by
  induction l with
  | nil => rfl
  | cons x r ih => simp only [oncs, onc, List.flatMap_cons, List.length_append, List.length_cons, List.length_nil] at ih ⊢; omega
theorem oncs_at {l : List Oe} {j : Nat} {e : Oe} (h : l[j]? = some e) : ∀ (i : Nat) (v : Value), (onc e)[i]? = some v → (oncs l)[j * 6 + i]? = some v := by
  have hl := (List.getElem?_eq_some_iff.1 h).1
  have e1 : oncs l = oncs (l.take j) ++ (onc e ++ oncs (l.drop (j + 1))) := by
    have h2 : l[j] = e := (List.getElem?_eq_some_iff.1 h).2
    have h3 : l = l.take j ++ (e :: l.drop (j + 1)) := by rw [← h2, ← List.drop_eq_getElem_cons hl, List.take_append_drop]
    have h4 := congrArg oncs h3
    rw [oncs_append] at h4
    exact h4
  have e2 : (oncs (l.take j)).length = j * 6 := by rw [oncs_length, List.length_take, Nat.min_eq_left (Nat.le_of_lt hl)]
  intro i v hv
  have hi := (List.getElem?_eq_some_iff.1 hv).1
  rw [e1, List.getElem?_append_right (by omega), e2, Nat.add_sub_cancel_left, List.getElem?_append_left hi]
  exact hv
theorem onc_cell (x : Oe) : ∀ v ∈ onc x, v.oneCell' = true := by
  intro v hv
  simp only [onc, List.mem_cons, List.not_mem_nil, or_false] at hv
  rcases hv with rfl | rfl | rfl | rfl | rfl | rfl <;> rfl
def OW (w : World) (A : Option Addr) (n c : Nat) (l : List Oe) : Prop := FSeg w 107 6 A n c (oncs l)
def ORd (w : World) (A : Option Addr) (n : Nat) (l : List Oe) : Prop := RSeg w 6 A n (oncs l)
section
variable {w w' : World} {A : Option Addr} {n c : Nat} {l : List Oe} {F : Nat → Prop}
theorem ORd.len (h : ORd w A n l) : l.length = n := by have := h.1; rw [oncs_length] at this; omega
theorem OW.rd (h : OW w A n c l) : ORd w A n l := FSeg.rseg h
theorem OW.keep (h : OW w A n c l) (hs : Step F w w') (hF : ∀ j, blockOf A = some j → ¬ F j) : OW w' A n c l := FSeg.keep h hs hF
theorem ORd.keep (h : ORd w A n l) (hs : Step F w w') (hF : ∀ j, blockOf A = some j → ¬ F j) : ORd w' A n l := RSeg.keep h hs hF
theorem ORd.same (h : ORd w A n l) (hs : Step (fun _ => False) w w') : ORd w' A n l := RSeg.same h hs
theorem ORd.cells {g o : Nat} (h : ORd w (some ⟨g, o, none⟩) n l) {j : Nat} {e : Oe} (he : l[j]? = some e) :
    w.cell? ⟨g, o + j * 6, none⟩ = some (.string e.nm) ∧ w.cell? ⟨g, o + j * 6 + 1, none⟩ = some (.bool e.pb.up) ∧ w.cell? ⟨g, o + j * 6 + 2, none⟩ = some (.int .i64 e.pb.good) ∧ w.cell? ⟨g, o + j * 6 + 3, none⟩ = some (.int .i64 e.pb.bad) ∧ w.cell? ⟨g, o + j * 6 + 4, none⟩ = some (.int .i64 e.pb.since) ∧ w.cell? ⟨g, o + j * 6 + 5, none⟩ = some (.bool e.waits) :=
  ⟨by have := RSeg.cell' h (oncs_at he 0 _ rfl); simpa using this, RSeg.cell' h (oncs_at he 1 _ rfl), RSeg.cell' h (oncs_at he 2 _ rfl), RSeg.cell' h (oncs_at he 3 _ rfl), RSeg.cell' h (oncs_at he 4 _ rfl), RSeg.cell' h (oncs_at he 5 _ rfl)⟩
end
theorem i0one : ∃ i, Try.prog.info? 107 = some i ∧ i.zero = some (.agg #[.string ⟨#[]⟩, .bool false, .int .i64 0, .int .i64 0, .int .i64 0, .bool false]) ∧ i.size = 6 ∧ i.bytes = 56 := by
  obtain ⟨i, hi, hp⟩ := Option.map_eq_some_iff.1 (by kernel_rfl : (Try.prog.info? 107).map (fun i => (i.zero, i.size, i.bytes)) = some (some (.agg #[.string ⟨#[]⟩, .bool false, .int .i64 0, .int .i64 0, .int .i64 0, .bool false]), 6, 56))
  simp only [Prod.mk.injEq] at hp
  exact ⟨i, hi, hp⟩
/-- One more in a row of the call's own. -/
theorem app_one_step {w w1 : World} {B : Option Addr} {m cB : Nat} {l : List Oe} (hst : Step (fun _ => False) w w1) (hB : OW w1 B m cB l) (hBf : ∀ k, blockOf B = some k → w.heap.size ≤ k) (hb : m + 1 ≤ 1000000) (o : Oe) :
    ∃ B' c' w', (Builtin.append_ #[57, 57] 57 #[.slice B m cB, .slice (some ⟨w1.heap.size, 0, none⟩) 1 1]).run Try.prog (w1.alloc (.cells #[.string o.nm, .bool o.pb.up, .int .i64 o.pb.good, .int .i64 o.pb.bad, .int .i64 o.pb.since, .bool o.waits] 107)) = .ok (.slice B' (m + 1) c') w' ∧
      OW w' B' (m + 1) c' (l ++ [o]) ∧ (∀ k, blockOf B' = some k → blockOf B = some k ∨ w1.heap.size ≤ k) ∧ Step (fun _ => False) w w' ∧ Step (fun k => blockOf B = some k) w1 w' := by
  obtain ⟨i0, hi0, hz0, hs0, hy0⟩ := i0one
  have hal : Step (fun _ => False) w1 (w1.alloc (.cells #[.string o.nm, .bool o.pb.up, .int .i64 o.pb.good, .int .i64 o.pb.bad, .int .i64 o.pb.since, .bool o.waits] 107)) := (Step.refl _ _).alloc _
  obtain ⟨B5, c5, w5, hap, hB6, hs5, hn5⟩ := run_app_one (k := 6) (v := onc o) 57 107 Try.underlying57 hi0 hz0 rfl hs0 hy0 (by omega) (hB.keep hal (fun _ _ h => h)) rfl (onc_cell o) (blk_new w1 (onc o) 107) hb
  have hz4 := hst.size
  have hz6 := hal.size
  refine ⟨B5, c5, w5, hap, by unfold OW; rw [oncs_append, oncs_one]; exact hB6, fun k hk => ?_, (hst.same hal).trans hs5 (fun j hj h => by have := hBf j h; omega), (hal.mono (fun _ _ h => h.elim)).same hs5⟩
  rcases hn5 with e | ⟨j, e, hj⟩
  · exact .inl (e ▸ hk)
  · rw [hk] at e
    obtain rfl := Option.some.inj e
    exact .inr (by omega)

/-- Somebody by his name. -/
def getO (l : List Oe) (s : ByteArray) : Option Oe := l.find? (fun o => decide (o.nm = s))
def zOe : Oe := ⟨⟨#[]⟩, ⟨false, 0, 0, 0⟩, false⟩
theorem getO_hit {l : List Oe} {s : ByteArray} {i : Nat} (hi : i < l.length) (h : (l[i]).nm = s) (hno : ∀ j (hj : j < l.length), j < i → (l[j]).nm ≠ s) : getO l s = some l[i] := by
  unfold getO
  rw [List.find?_eq_some_iff_getElem]
  exact ⟨by simp [h], i, hi, rfl, fun j hj => by simp [hno j (by omega) hj]⟩
theorem getO_miss {l : List Oe} {s : ByteArray} (hno : ∀ j (hj : j < l.length), (l[j]).nm ≠ s) : getO l s = none :=
  List.find?_eq_none.2 (fun x hx => by
    obtain ⟨j, hj, rfl⟩ := List.mem_iff_getElem.1 hx
    simp [hno j hj])
/-- The document's health as a value. -/
def dv (c : Cf) (A : Option Addr) (n cA : Nat) (B : Option Addr) (m cB : Nat) (ep : Int) : List Value := [.int .i64 c.every, .int .i64 c.wait, .int .i64 c.rise, .int .i64 c.fall, .slice A n cA, .slice B m cB, .int .i64 ep]
theorem oe_step {w w' : World} {F : Nat → Prop} (h : Step F w w') : w.heap.size ≤ w'.heap.size := h.size

set_option maxRecDepth 100000 in
set_option maxHeartbeats 1000000 in
theorem find_calls {w : World} {A B : Option Addr} {n cA m cB : Nat} {l : List Oe} (c : Cf) (ep : Int) (h : ORd w A n l) (hmax : n ≤ 100000) (s : ByteArray) :
    Calls Try.prog 57 #[.agg #[.int .i64 c.every, .int .i64 c.wait, .int .i64 c.rise, .int .i64 c.fall, .slice A n cA, .slice B m cB, .int .i64 ep], .string s] w fun e w' => e = .returned (.tuple #[.agg (onc ((getO l s).getD zOe)).toArray, .bool (getO l s).isSome]) ∧ Step (fun _ => False) w w' := by
  have hn := h.len
  obtain ⟨r, hr0⟩ : ∃ r, getO l s = r := ⟨_, rfl⟩
  rw [hr0]
  have hr := Lib.hid hr0
  have HH := Lib.hid h
  clear hr0 h
  obtain ⟨c0, c1, c2, c3⟩ := c
  simp only
  go_enter Try.func57, Try.ntmps57
  go_upto_region 1 with (fail)
  refine alloc_next2 (cs := [.int .i64 c0, .int .i64 c1, .int .i64 c2, .int .i64 c3, .slice A n cA, .slice B m cB, .int .i64 ep]) (ds := [.string ⟨#[]⟩, .bool false, .int .i64 0, .int .i64 0, .int .i64 0, .bool false]) ?_
  intro w1 hD hR1 hs1 hl1
  obtain ⟨db, hdb⟩ : ∃ db, w.heap.size = db := ⟨_, rfl⟩
  rw [hdb] at hD hR1 hl1 ⊢
  have HDB := Lib.hid hdb
  clear hdb
  have d4 := hD.cell (i := 4) rfl
  go_wp2
  go_loopw [11] (fun v11 wr => ∃ (i : Nat), i ≤ n ∧ v11 = .int .i64 (i : Int) ∧ (∀ j (hj : j < l.length), j < i → (l[j]).nm ≠ s) ∧ Step (fun _ => False) w1 wr) (fun v _ => n - (intOf v).toNat)
  case atStart => exact ⟨0, by omega, rfl, fun j hj h => by omega, Step.refl _ _⟩
  case round =>
    clear d4
    obtain ⟨i, hi, rfl, hno0, hS⟩ := hrel
    have hno := Lib.hid hno0
    clear hno0
    have hRr := hR1.keep hS (fun h => h)
    by_cases hlt : i < n
    · have hlt' : (i : Int) < (n : Int) := by omega
      have hil : i < l.length := by omega
      have hq := HH.out.same (hs1.same hS)
      obtain ⟨g, o, rfl⟩ := RSeg.isSome hq (by omega) (by omega)
      obtain ⟨a0, a1, a2, a3, a4, a5⟩ := hq.cells (List.getElem?_eq_getElem hil)
      have hhit : (l[i]).nm = s → r = some l[i] := fun e => hr.out.symm.trans (getO_hit hil e hno.out)
      have hmiss : (l[i]).nm ≠ s → ∀ j (hj : j < l.length), j < i + 1 → (l[j]).nm ≠ s := fun hp j hj hji => by
        by_cases e : j = i
        · subst e; exact hp
        · exact hno.out j hj (by omega)
      have hhit := Lib.hid hhit
      have hmiss := Lib.hid hmiss
      generalize l[i] = x at *
      obtain ⟨x0, ⟨x1, x2, x3, x4⟩, x5⟩ := x
      simp only at a0 a1 a2 a3 a4 a5
      clear hq hr hno
      go_upto_region 4 with (fail)
      refine alloc_next (cs := [.string x0, .bool x1, .int .i64 x2, .int .i64 x3, .int .i64 x4, .bool x5]) ?_
      intro w2 hE hs2
      have hR2 := hRr.keep hs2 (fun h => h)
      have hne : db + 1 ≠ wr.heap.size := by have := hRr.lt; omega
      clear a0 a1 a2 a3 a4 a5 hRr
      generalize wr.heap.size = eb at *
      have e0 := hE.cell (i := 0) rfl
      by_cases hxs : x0 = s
      · have hst : (x0.toList == s.toList) = true := by rw [hxs]; exact bytes_same s
        have hrr : r = some ⟨x0, ⟨x1, x2, x3, x4⟩, x5⟩ := hhit.out hxs
        subst hrr
        clear hhit hmiss hxs
        have e1 := hE.cell (i := 1) rfl
        have e2 := hE.cell (i := 2) rfl
        have e3 := hE.cell (i := 3) rfl
        have e4 := hE.cell (i := 4) rfl
        have e5 := hE.cell (i := 5) rfl
        go_wp2_with (refine wpList_store_blk rfl 107 (.tmp 4) (.tmp 19) rfl hR2 rfl (vs := onc ⟨x0, ⟨x1, x2, x3, x4⟩, x5⟩) rfl (by kernel_rfl) rfl (onc_cell _) ?_; intro w9 hZ9 hs9)
        try simp only [Exit.inBlock, Exit.then]
        exact post_cell_tmp (cs := onc ⟨x0, ⟨x1, x2, x3, x4⟩, x5⟩) rfl rfl hZ9 Try.underlying107 rfl (by kernel_rfl) rfl rfl ⟨rfl, ((hs1.same hS).same hs2).trans hs9 (fun j hj e => by have := HDB.out; omega)⟩
      · have hst : (x0.toList == s.toList) = false := bytes_ne hxs
        have hm := Lib.hid (hmiss.out hxs)
        clear hhit hmiss hxs
        go_wp2
        go_roundw
        case rel => exact ⟨i + 1, by omega, by go_num, hm.out, hS.same hs2⟩
        case measure => simp [intOf]; omega
    · have hrn : r = none := hr.out.symm.trans (getO_miss (fun j hj => hno.out j hj (by omega)))
      subst hrn
      have hlt' : ¬ (i : Int) < (n : Int) := by omega
      clear hr hno
      go_wp2_with (refine wpList_store_blk rfl 107 (.tmp 4) (.tmp 21) rfl hRr rfl (vs := onc zOe) rfl (by kernel_rfl) rfl (onc_cell _) ?_; intro w9 hZ9 hs9)
      try simp only [Exit.inBlock, Exit.then]
      exact post_cell_tmp (cs := onc zOe) rfl rfl hZ9 Try.underlying107 rfl (by kernel_rfl) rfl rfl ⟨rfl, (hs1.same hS).trans hs9 (fun j hj e => by have := HDB.out; omega)⟩

def ltB (a b : ByteArray) : Bool := Op.bytesLess a.toList b.toList
def stepP (o : Oe) (st : List Oe × Bool) (x : Oe) : List Oe × Bool :=
  (if x.nm = o.nm then (if st.2 = false ∧ ltB x.nm o.nm = false then st.1 ++ [o] else st.1) else (if st.2 = false ∧ ltB x.nm o.nm = false then st.1 ++ [o] else st.1) ++ [x], st.2 || !ltB x.nm o.nm)
def outP (l : List Oe) (o : Oe) : List Oe × Bool := l.foldl (stepP o) ([], false)
def putO (l : List Oe) (o : Oe) : List Oe := if (outP l o).2 = true then (outP l o).1 else (outP l o).1 ++ [o]
theorem outP_take {l : List Oe} {o x : Oe} {i : Nat} (h : l[i]? = some x) : outP (l.take (i + 1)) o = stepP o (outP (l.take i) o) x := by
  unfold outP
  rw [List.take_add_one, h, List.foldl_append]
  rfl
theorem stepP_len (o : Oe) (st : List Oe × Bool) (x : Oe) : (stepP o st x).1.length ≤ st.1.length + 2 := by
  unfold stepP
  simp only
  split <;> split <;> simp
theorem foldP_len (o : Oe) : ∀ (l : List Oe) (st : List Oe × Bool), (l.foldl (stepP o) st).1.length ≤ st.1.length + 2 * l.length
  | [], st => by simp
  | x :: l, st => by
    have := foldP_len o l (stepP o st x)
    have h2 := stepP_len o st x
    rw [List.foldl_cons, List.length_cons]
    omega
theorem outP_len (l : List Oe) (o : Oe) : (outP l o).1.length ≤ 2 * l.length := by
  have := foldP_len o l ([], false)
  simpa [outP] using this

set_option maxRecDepth 100000 in
set_option maxHeartbeats 4000000 in
theorem put_calls {w : World} {A : Option Addr} {n cA : Nat} {l : List Oe} (h : ORd w A n l) (hmax : n ≤ 100000) (o : Oe) :
    Calls Try.prog 58 #[.slice A n cA, .agg #[.string o.nm, .bool o.pb.up, .int .i64 o.pb.good, .int .i64 o.pb.bad, .int .i64 o.pb.since, .bool o.waits]] w fun e w' => ∃ B cB, e = .returned (.slice B (putO l o).length cB) ∧ OW w' B (putO l o).length cB (putO l o) ∧ (∀ k, blockOf B = some k → w.heap.size ≤ k) ∧ Step (fun _ => False) w w' := by
  have hn := h.len
  have HH := Lib.hid h
  have HLN := Lib.hid hn
  clear h hn
  obtain ⟨o0, ⟨o1, o2, o3, o4⟩, o5⟩ := o
  simp only
  obtain ⟨o, ho⟩ : ∃ o : Oe, (⟨o0, ⟨o1, o2, o3, o4⟩, o5⟩ : Oe) = o := ⟨_, rfl⟩
  rw [ho]
  have HO := Lib.hid ho
  clear ho
  go_enter Try.func58, Try.ntmps58
  go_upto_region 1 with (fail)
  refine alloc_next (cs := [.string o0, .bool o1, .int .i64 o2, .int .i64 o3, .int .i64 o4, .bool o5]) ?_
  intro w1 hP hs1
  obtain ⟨pb, hpb⟩ : ∃ pb, w.heap.size = pb := ⟨_, rfl⟩
  rw [hpb] at hP ⊢
  have HPB := Lib.hid hpb
  clear hpb
  go_upto_region 3 with (fail)
  have hB0 : OW (w1.alloc (.cells #[] 107)) (some ⟨w1.heap.size, 0, none⟩) 0 0 [] := ⟨rfl, .inr ⟨w1.heap.size, #[], rfl, by show (w1.heap.push _)[w1.heap.size]? = _; simp, Nat.le_refl _, Nat.le_refl _, fun j v hj => by simp [oncs] at hj⟩⟩
  have hs0 : Step (fun _ => False) w1 (w1.alloc (.cells #[] 107)) := (Step.refl _ _).alloc _
  have hP0 := hP.keep hs0 (fun h => h)
  have hst0 : Step (fun _ => False) w (w1.alloc (.cells #[] 107)) := hs1.same hs0
  have hz1 := hs1.size
  have hf0 : ∀ k, blockOf (some (⟨w1.heap.size, 0, none⟩ : Addr)) = some k → w.heap.size ≤ k ∧ k ≠ pb := fun k hk => by
    obtain rfl : w1.heap.size = k := Option.some.inj hk
    exact ⟨hz1, by have := hP.lt; omega⟩
  generalize hw0 : w1.alloc (.cells #[] 107) = w0 at *
  clear hw0
  generalize (some (⟨w1.heap.size, 0, none⟩ : Addr)) = A0 at *
  clear hs1 hs0 hP
  go_wp2
  go_loopw [5, 6, 12] (fun v5 v6 v12 wr => ∃ (i m : Nat) (d : Bool) (B : Option Addr) (cB : Nat), v12 = .int .i64 (i : Int) ∧ v5 = .slice B m cB ∧ v6 = .bool d ∧ i ≤ n ∧ m = (outP (l.take i) o).1.length ∧ d = (outP (l.take i) o).2 ∧ m ≤ 2 * i ∧ OW wr B m cB (outP (l.take i) o).1 ∧ (∀ k, blockOf B = some k → w.heap.size ≤ k ∧ k ≠ pb) ∧ Step (fun _ => False) w wr ∧ Blk wr pb 107 [.string o0, .bool o1, .int .i64 o2, .int .i64 o3, .int .i64 o4, .bool o5]) (fun _ _ v _ => n - (intOf v).toNat)
  case atStart => exact ⟨0, 0, false, A0, 0, rfl, rfl, rfl, Nat.zero_le _, rfl, rfl, Nat.le_refl _, hB0, hf0, hst0, hP0⟩
  case round =>
    clear hB0 hf0 hst0 hP0
    obtain ⟨i, m, d, B, cB, rfl, rfl, rfl, hi, hm, hd, hmi, hB, hBf, hst, hP⟩ := hrel
    by_cases hin : i < n
    · have hin' : ((i : Int) < (n : Int)) := by omega
      have hR := HH.out.same hst
      obtain ⟨g, q, rfl⟩ := RSeg.isSome hR (by omega) (by omega)
      obtain ⟨x, hx⟩ : ∃ x, l[i]? = some x := ⟨_, List.getElem?_eq_getElem (by rw [HLN.out]; exact hin)⟩
      obtain ⟨a0, a1, a2, a3, a4, a5⟩ := hR.cells hx
      have HTK := Lib.hid (outP_take (o := o) hx)
      obtain ⟨x0, ⟨x1, x2, x3, x4⟩, x5⟩ := x
      simp only at a0 a1 a2 a3 a4 a5
      obtain ⟨st0, hst0⟩ : ∃ st0, outP (l.take i) o = st0 := ⟨_, rfl⟩
      rw [hst0] at hm hd hB HTK
      clear hst0
      obtain ⟨L0, d0⟩ := st0
      simp only at hm hd hB
      obtain rfl : d = d0 := hd
      clear hR hx
      go_upto_region 6 with (fail)
      refine alloc_next (cs := [.string x0, .bool x1, .int .i64 x2, .int .i64 x3, .int .i64 x4, .bool x5]) ?_
      intro w2 hX hs2
      have hst1 := hst.same hs2
      have hB1 := hB.keep hs2 (fun _ _ h => h)
      have hP1 := hP.keep hs2 (fun h => h)
      have HBW := Lib.hid (fun k (hk : blockOf B = some k) => (FSeg.lt hB hk : k < wr.heap.size))
      have hpl := hP.lt
      clear a0 a1 a2 a3 a4 a5 hB hP hst
      obtain ⟨xb, hxb⟩ : ∃ xb, wr.heap.size = xb := ⟨_, rfl⟩
      rw [hxb] at hX HBW hpl ⊢
      have hBx : ∀ k, blockOf B = some k → k ≠ xb := fun k hk => by have := HBW.out k hk; omega
      have hz2 := hs2.size
      rw [hxb] at hz2
      clear hxb
      have HM := Lib.hid hm
      clear hm
      have p0 := hP1.cell (i := 0) rfl
      have x0c := hX.cell (i := 0) rfl
      --TAIL put
      cases d with
      | true =>
        go_upto_region 9 with (fail)
        clear p0 x0c
        have y0 := hX.cell (i := 0) rfl
        have q0 := hP1.cell (i := 0) rfl
        by_cases hxo : x0 = o0
        · have hse : (x0.toList == o0.toList) = true := by rw [hxo]; exact bytes_same o0
          have HS : Hid (outP (l.take (i + 1)) o = (L0, true)) := Lib.hid (by
            rw [HTK.out, ← HO.out]
            unfold stepP
            simp [hxo, ltB])
          have HBB := Lib.hid hB1
          clear hxo
          go_wp2
          go_roundw
          case rel => exact ⟨i + 1, m, true, B, cB, by go_num, rfl, rfl, by omega, by rw [HS.out]; simp [HM.out], by rw [HS.out], by omega, by rw [HS.out]; exact HBB.out, hBf, hst1, hP1⟩
          case measure => simp [intOf]; omega
        · have hse : (x0.toList == o0.toList) = false := bytes_ne hxo
          have HS : Hid (outP (l.take (i + 1)) o = (L0 ++ [⟨x0, ⟨x1, x2, x3, x4⟩, x5⟩], true)) := Lib.hid (by
            rw [HTK.out, ← HO.out]
            unfold stepP
            simp [hxo, ltB])
          clear hxo
          go_upto_region 10 with (fail)
          have y1 := hX.cell (i := 1) rfl
          have y2 := hX.cell (i := 2) rfl
          have y3 := hX.cell (i := 3) rfl
          have y4 := hX.cell (i := 4) rfl
          have y5 := hX.cell (i := 5) rfl
          obtain ⟨B5, c5, w5, hap5, hB5, hB5f, hst5, hks5⟩ := app_one_step hst1 hB1 (fun k hk => (hBf k hk).1) (by omega) ⟨x0, ⟨x1, x2, x3, x4⟩, x5⟩
          have hP5 := hP1.keep hks5 (fun h => (hBf _ h).2 rfl)
          have hpl5 := hP1.lt
          have hzw := hst1.size
          have HBB := Lib.hid hB5
          have hB5n : ∀ k, blockOf B5 = some k → w.heap.size ≤ k ∧ k ≠ pb := fun k hk => (hB5f k hk).elim (hBf k) (fun h => ⟨by omega, by omega⟩)
          clear hB5 hks5 hB5f
          go_wp2_with (at_builtin; refine wpList_app1 (by rfl) (.tmp 34) (.tmp 36) 57 (by rfl) (by rfl) (by rfl) hap5 ?_)
          go_roundw
          case rel => exact ⟨i + 1, m + 1, true, B5, c5, by go_num, rfl, rfl, by omega, by rw [HS.out]; simp [HM.out], by rw [HS.out], by omega, by rw [HS.out]; exact HBB.out, hB5n, hst5, hP5⟩
          case measure => simp [intOf]; omega
      | false =>
        cases hlb : Op.bytesLess x0.toList o0.toList with
        | true =>
          have hlt : ltB x0 o0 = true := hlb
          go_upto_region 9 with (fail)
          clear p0 x0c hlb
          have y0 := hX.cell (i := 0) rfl
          have q0 := hP1.cell (i := 0) rfl
          by_cases hxo : x0 = o0
          · have hse : (x0.toList == o0.toList) = true := by rw [hxo]; exact bytes_same o0
            have HS : Hid (outP (l.take (i + 1)) o = (L0, false)) := Lib.hid (by
              rw [HTK.out, ← HO.out]
              unfold stepP
              simp [hlt] <;> simp [hxo] at hlt ⊢)
            have HBB := Lib.hid hB1
            clear hxo
            go_wp2
            go_roundw
            case rel => exact ⟨i + 1, m, false, B, cB, by go_num, rfl, rfl, by omega, by rw [HS.out]; simp [HM.out], by rw [HS.out], by omega, by rw [HS.out]; exact HBB.out, hBf, hst1, hP1⟩
            case measure => simp [intOf]; omega
          · have hse : (x0.toList == o0.toList) = false := bytes_ne hxo
            have HS : Hid (outP (l.take (i + 1)) o = (L0 ++ [⟨x0, ⟨x1, x2, x3, x4⟩, x5⟩], false)) := Lib.hid (by
              rw [HTK.out, ← HO.out]
              unfold stepP
              simp [hlt] <;> simp [hxo] at hlt ⊢)
            clear hxo
            go_upto_region 10 with (fail)
            have y1 := hX.cell (i := 1) rfl
            have y2 := hX.cell (i := 2) rfl
            have y3 := hX.cell (i := 3) rfl
            have y4 := hX.cell (i := 4) rfl
            have y5 := hX.cell (i := 5) rfl
            obtain ⟨B5, c5, w5, hap5, hB5, hB5f, hst5, hks5⟩ := app_one_step hst1 hB1 (fun k hk => (hBf k hk).1) (by omega) ⟨x0, ⟨x1, x2, x3, x4⟩, x5⟩
            have hP5 := hP1.keep hks5 (fun h => (hBf _ h).2 rfl)
            have hpl5 := hP1.lt
            have hzw := hst1.size
            have HBB := Lib.hid hB5
            have hB5n : ∀ k, blockOf B5 = some k → w.heap.size ≤ k ∧ k ≠ pb := fun k hk => (hB5f k hk).elim (hBf k) (fun h => ⟨by omega, by omega⟩)
            clear hB5 hks5 hB5f
            go_wp2_with (at_builtin; refine wpList_app1 (by rfl) (.tmp 34) (.tmp 36) 57 (by rfl) (by rfl) (by rfl) hap5 ?_)
            go_roundw
            case rel => exact ⟨i + 1, m + 1, false, B5, c5, by go_num, rfl, rfl, by omega, by rw [HS.out]; simp [HM.out], by rw [HS.out], by omega, by rw [HS.out]; exact HBB.out, hB5n, hst5, hP5⟩
            case measure => simp [intOf]; omega
        | false =>
          have hlt : ltB x0 o0 = false := hlb
          go_upto_region 7 with (fail)
          have r1 := hP1.cell (i := 1) rfl
          have r2 := hP1.cell (i := 2) rfl
          have r3 := hP1.cell (i := 3) rfl
          have r4 := hP1.cell (i := 4) rfl
          have r5 := hP1.cell (i := 5) rfl
          obtain ⟨B4, c4, w4, hap4, hB4, hB4f, hst4, hks4⟩ := app_one_step hst1 hB1 (fun k hk => (hBf k hk).1) (by omega) ⟨o0, ⟨o1, o2, o3, o4⟩, o5⟩
          rw [HO.out] at hB4
          have hP4 := hP1.keep hks4 (fun h => (hBf _ h).2 rfl)
          have hX4 := hX.keep hks4 (fun h => hBx _ h rfl)
          have hzw4 := hst1.size
          have hpl4 := hP1.lt
          have hB4n : ∀ k, blockOf B4 = some k → w.heap.size ≤ k ∧ k ≠ pb := fun k hk => (hB4f k hk).elim (hBf k) (fun h => ⟨by omega, by omega⟩)
          clear hks4 hB4f x0c hlb
          go_upto_region 9 with (at_builtin; refine wpList_app1 (by rfl) (.tmp 25) (.tmp 27) 57 (by rfl) (by rfl) (by rfl) hap4 ?_)
          clear r1 r2 r3 r4 r5 hap4 p0
          have y0 := hX4.cell (i := 0) rfl
          have q0 := hP4.cell (i := 0) rfl
          by_cases hxo : x0 = o0
          · have hse : (x0.toList == o0.toList) = true := by rw [hxo]; exact bytes_same o0
            have HS : Hid (outP (l.take (i + 1)) o = ((L0 ++ [o]), true)) := Lib.hid (by
              have hlt' := hlt
              rw [hxo] at hlt'
              rw [HTK.out, ← HO.out]
              unfold stepP
              simp [hxo, hlt'])
            have HBB := Lib.hid hB4
            clear hxo
            go_wp2
            go_roundw
            case rel => exact ⟨i + 1, (m + 1), true, B4, c4, by go_num, rfl, rfl, by omega, by rw [HS.out]; simp [HM.out], by rw [HS.out], by omega, by rw [HS.out]; exact HBB.out, hB4n, hst4, hP4⟩
            case measure => simp [intOf]; omega
          · have hse : (x0.toList == o0.toList) = false := bytes_ne hxo
            have HS : Hid (outP (l.take (i + 1)) o = (L0 ++ [o] ++ [⟨x0, ⟨x1, x2, x3, x4⟩, x5⟩], true)) := Lib.hid (by
              rw [HTK.out, ← HO.out]
              unfold stepP
              simp [hxo, hlt])
            clear hxo
            go_upto_region 10 with (fail)
            have y1 := hX4.cell (i := 1) rfl
            have y2 := hX4.cell (i := 2) rfl
            have y3 := hX4.cell (i := 3) rfl
            have y4 := hX4.cell (i := 4) rfl
            have y5 := hX4.cell (i := 5) rfl
            obtain ⟨B5, c5, w5, hap5, hB5, hB5f, hst5, hks5⟩ := app_one_step hst4 hB4 (fun k hk => (hB4n k hk).1) (by omega) ⟨x0, ⟨x1, x2, x3, x4⟩, x5⟩
            have hP5 := hP4.keep hks5 (fun h => (hB4n _ h).2 rfl)
            have hpl5 := hP4.lt
            have hzw := hst4.size
            have HBB := Lib.hid hB5
            have hB5n : ∀ k, blockOf B5 = some k → w.heap.size ≤ k ∧ k ≠ pb := fun k hk => (hB5f k hk).elim (hB4n k) (fun h => ⟨by omega, by omega⟩)
            clear hB5 hks5 hB5f
            go_wp2_with (at_builtin; refine wpList_app1 (by rfl) (.tmp 34) (.tmp 36) 57 (by rfl) (by rfl) (by rfl) hap5 ?_)
            go_roundw
            case rel => exact ⟨i + 1, (m + 1) + 1, true, B5, c5, by go_num, rfl, rfl, by omega, by rw [HS.out]; simp [HM.out], by rw [HS.out], by omega, by rw [HS.out]; exact HBB.out, hB5n, hst5, hP5⟩
            case measure => simp [intOf]; omega
    · obtain rfl : i = n := by omega
      have hin' : ¬ ((i : Int) < (i : Int)) := by omega
      rw [List.take_of_length_le (by rw [HLN.out]; exact Nat.le_refl _)] at hB hm hd
      have HM := Lib.hid hm
      have HD := Lib.hid hd
      clear hm hd
      cases d with
      | true =>
        have HE : Hid ((outP l o).1 = putO l o) := Lib.hid (by unfold putO; rw [if_pos HD.out.symm])
        rw [HE.out] at hB HM
        have HB := Lib.hid hB
        clear HE hB HD
        go_wp2
        go_ret
        exact ⟨B, cB, by rw [← HM.out]; rfl, by rw [← HM.out]; exact HB.out, fun k hk => (hBf k hk).1, hst⟩
      | false =>
        have HE : Hid ((outP l o).1 ++ [o] = putO l o) := Lib.hid (by unfold putO; rw [if_neg (by rw [← HD.out]; simp)])
        go_upto_region 13 with (fail)
        have r0 := hP.cell (i := 0) rfl
        have r1 := hP.cell (i := 1) rfl
        have r2 := hP.cell (i := 2) rfl
        have r3 := hP.cell (i := 3) rfl
        have r4 := hP.cell (i := 4) rfl
        have r5 := hP.cell (i := 5) rfl
        have hzw := hst.size
        obtain ⟨B4, c4, w4, hap4, hB4, hB4f, hst4, hks4⟩ := app_one_step hst hB (fun k hk => (hBf k hk).1) (by omega) ⟨o0, ⟨o1, o2, o3, o4⟩, o5⟩
        rw [HO.out, HE.out] at hB4
        have HL : Hid ((putO l o).length = m + 1) := Lib.hid (by rw [← HE.out, List.length_append, ← HM.out]; rfl)
        have HB := Lib.hid hB4
        clear HE hB hB4 HD hks4
        go_wp2_with (at_builtin; refine wpList_app1 (by rfl) (.tmp 41) (.tmp 43) 57 (by rfl) (by rfl) (by rfl) hap4 ?_)
        go_ret
        exact ⟨B4, c4, by rw [HL.out]; rfl, by rw [HL.out]; exact HB.out, fun k hk => (hB4f k hk).elim (fun h => (hBf k h).1) (fun h => by omega), hst4⟩
end Go.Proofs.Ytghiklaeenhljaa.HeD
