/- rotor: Clone, Keep, Pick of nobody. Own work of this seat (maps.Clone's and maps.DeleteFunc's walks after the shelf's own). -/
import Derived.Test.YtlmppdpjjkdoaabRotH
import Derived.Shelf.SlMaps.Clone
import Derived.StringKeys
import Derived.Shelf.SlMaps.DeleteFunc
namespace Go.Proofs.Ytlmppdpjjkdoaab.Rot
open Go.RowKit Go.Proofs.Ytlmppdpjjkdoaab.Kit Go.Proofs.Ytlmppdpjjkdoaab.PRotorPlays Go.Proofs.YtlmppdpjjkdoaabW.PrintWords Go.Proofs.YtlmppdpjjkdoaabW.PrintLast Go.Proofs.YtlmppdpjjkdoaabW.PrintMore Go.Maps Go.ChangeMaps
set_option linter.unusedVariables false
set_option linter.unusedSimpArgs false

set_option maxRecDepth 100000 in
set_option maxHeartbeats 2000000 in
theorem mclone_calls {w : World} {b n : Nat} {f : ByteArray → Int} (h : MInt w b n f) :
    Calls Try.prog 33 #[.map (some b)] w fun e w' => e = .returned (.map (some w.heap.size)) ∧ MInt w' w.heap.size n f ∧ Step (fun _ => False) w w' := by
  obtain ⟨D, ⟨es, clock, hb, F, hs, hD⟩, hf⟩ := h
  have hq := fun w => run_eql_map_nil_sl (P := Try.prog) w 68 _ _ (some b) Try.underlying68
  go_enter Try.func33, Try.ntmps33
  go_wp2
  rw [run_callFunc_extern Try.func45 (by kernel_rfl) (by kernel_rfl) (by kernel_rfl) (e := Extern.MapsClone.clone) (by kernel_rfl), run_maps_clone_sl w 68 hb]
  simp only [Result.andThen]
  rw [Oper.upon_value]
  go_wp2
  rw [run_typeAssert_map_sl _ 68 _ _ _ _ Try.underlying68]
  simp only [Result.andThen]
  rw [Oper.upon_value]
  go_wp2
  go_ret
  exact ⟨rfl, ⟨D, ⟨es, clock, (MapKept.heap_alloc w _).1, F, hs, hD⟩, hf⟩, (Step.refl _ _).alloc _⟩

set_option maxRecDepth 100000 in
set_option maxHeartbeats 2000000 in
theorem rclone_calls {w : World} {p b n : Nat} {f : ByteArray → Int} (h : RAt w p b n f) :
    Calls Try.prog 19 #[.pointer (some ⟨p, 0, none⟩)] w fun e w' => ∃ q b', e = .returned (.pointer (some ⟨q, 0, none⟩)) ∧ RAt w' q b' n f ∧ w.heap.size ≤ q ∧ w.heap.size ≤ b' ∧ Step (fun _ => False) w w' := by
  have c0 := h.blk.cell (i := 0) rfl
  have HC := mclone_calls h.map
  go_enter Try.func19, Try.ntmps19
  go_wp2_with (go_at_call 33; refine HC.mono ?_; rintro e1 w1 ⟨rfl, hm1, hs1⟩)
  go_ret
  have hst : Step (fun _ => False) w1 (w1.alloc (.cells #[.map (some w.heap.size)] 70)) := (Step.refl _ _).alloc _
  have hlt := hm1.lt
  exact ⟨w1.heap.size, w.heap.size, rfl, ⟨blk_new w1 _ _, hm1.keep hst (fun h => h), by omega⟩, hs1.size, Nat.le_refl _, hs1.same hst⟩

/-- A row of names. -/
def NRow (w : World) (A : Option Addr) (n c : Nat) (ns : List ByteArray) : Prop := FSeg w 9 1 A n c (ns.map Value.string)
theorem NRow.len {w : World} {A : Option Addr} {n c : Nat} {ns : List ByteArray} (h : NRow w A n c ns) : ns.length = n := by have := h.1; rw [List.length_map] at this; omega
theorem NRow.keep {w w' : World} {A : Option Addr} {n c : Nat} {ns : List ByteArray} {F : Nat → Prop} (h : NRow w A n c ns) (hs : Step F w w') (hF : ∀ j, blockOf A = some j → ¬ F j) : NRow w' A n c ns := FSeg.keep h hs hF
theorem NRow.cell {w : World} {g n c : Nat} {ns : List ByteArray} (h : NRow w (some ⟨g, 0, none⟩) n c ns) {i : Nat} {s : ByteArray} (hi : ns[i]? = some s) : w.cell? ⟨g, i, none⟩ = some (.string s) := FSeg.cell h (by rw [List.getElem?_map, hi]; rfl)

def inn (ns : List ByteArray) (v : ByteArray) : Bool := ns.any fun t => decide (t = v)
theorem inn_iff {ns : List ByteArray} {v : ByteArray} : inn ns v = true ↔ v ∈ ns := by
  unfold inn
  rw [List.any_eq_true]
  constructor
  · rintro ⟨x, hx, e⟩
    rw [← of_decide_eq_true e]; exact hx
  · intro h
    exact ⟨v, h, by simp⟩
theorem sbytes_eqv (t s : ByteArray) : (t.toList == s.toList) = decide (t = s) := by
  by_cases h : t = s
  · subst h; simp
  · rw [decide_eq_false h, ← beq_toListBytes]
    cases t with | mk a => cases s with | mk b =>
      have hab : a ≠ b := fun e => h (by rw [e])
      show (a == b) = false
      exact beq_eq_false_iff_ne.2 hab

set_option maxRecDepth 100000 in
set_option maxHeartbeats 2000000 in
theorem sindex_calls {w : World} {A : Option Addr} {n c : Nat} {ns : List ByteArray} (h : NRow w A n c ns) (hmax : n ≤ 1000000) (v : ByteArray) :
    Calls Try.prog 50 #[.slice A n c, .string v] w fun e w' => (∃ r : Int, e = .returned (.int .i64 r) ∧ (0 ≤ r ↔ v ∈ ns)) ∧ Step (fun _ => False) w w' := by
  have hn := h.len
  go_enter Try.func50, Try.ntmps50
  go_wp2
  go_loopw [8] (fun v8 wr => ∃ (i : Nat), i ≤ n ∧ v8 = .int .i64 (i : Int) ∧ (∀ j (hj : j < ns.length), j < i → ns[j] ≠ v) ∧ Step (fun _ => False) w wr) (fun v _ => n - (intOf v).toNat)
  case atStart => exact ⟨0, by omega, rfl, fun j hj h => by omega, Step.refl _ _⟩
  case round =>
    obtain ⟨i, hi, rfl, hno0, hS⟩ := hrel
    have hno := Lib.hid hno0
    clear hno0
    by_cases hlt : i < n
    · have hlt' : (i : Int) < (n : Int) := by omega
      have hil : i < ns.length := by omega
      have hq := h.keep hS (fun _ _ h => h)
      obtain ⟨g, rfl⟩ := FSeg.isSome hq (by omega)
      have d0 := hq.cell (List.getElem?_eq_getElem hil)
      have hmem : v = ns[i] → v ∈ ns := fun e => e ▸ List.getElem_mem hil
      have hmem := Lib.hid hmem
      have hmiss : v ≠ ns[i] → ∀ j (hj : j < ns.length), j < i + 1 → ns[j] ≠ v := fun hp j hj hji => by
        by_cases e : j = i
        · subst e; exact Ne.symm hp
        · exact hno.out j hj (by omega)
      have hmiss := Lib.hid hmiss
      clear hq
      generalize ns[i] = x at *
      have hst := sbytes_eqv v x
      by_cases hvx : v = x
      · subst hvx
        have hm := Lib.hid (hmem.out rfl)
        clear hmem hmiss
        go_wp2
        go_ret
        exact ⟨by first | exact ⟨_, rfl, ⟨fun _ => hm.out, fun _ => Int.natCast_nonneg _⟩⟩ | exact ⟨_, rfl, Int.natCast_nonneg _⟩, hS⟩
      · rw [decide_eq_false hvx] at hst
        have hm := Lib.hid (hmiss.out hvx)
        clear hmem hmiss
        go_wp2
        exact ⟨⟨i + 1, by omega, by go_num, hm.out, hS⟩, by simp [intOf]; omega⟩
    · obtain rfl : i = n := by omega
      have hm : v ∉ ns := fun hm => by
        obtain ⟨j, hj, e⟩ := List.mem_iff_getElem.1 hm
        exact hno.out j hj (by omega) e
      have hm := Lib.hid hm
      clear hno
      go_wp2
      go_ret
      exact ⟨⟨_, rfl, ⟨fun h => by omega, fun h => absurd h hm.out⟩⟩, hS⟩

set_option maxRecDepth 100000 in
set_option maxHeartbeats 2000000 in
theorem contains_calls {w : World} {A : Option Addr} {n c : Nat} {ns : List ByteArray} (h : NRow w A n c ns) (hmax : n ≤ 1000000) (v : ByteArray) :
    Calls Try.prog 41 #[.slice A n c, .string v] w fun e w' => e = .returned (.bool (inn ns v)) ∧ Step (fun _ => False) w w' := by
  have HI := sindex_calls h hmax v
  obtain ⟨m, hm0⟩ : ∃ m, inn ns v = m := ⟨_, rfl⟩
  rw [hm0]
  have hm := Lib.hid hm0
  clear hm0
  go_enter Try.func41, Try.ntmps41
  go_wp2_with (go_at_call 50; refine HI.mono ?_; rintro e1 w1 ⟨⟨r, rfl, hr⟩, hs1⟩)
  go_ret
  refine ⟨?_, hs1⟩
  rw [← hm.out]
  show Ending.returned (.bool (decide (r ≥ 0))) = _
  congr 2
  cases hi : inn ns v with
  | true => exact decide_eq_true (hr.2 (inn_iff.1 hi))
  | false => exact decide_eq_false (fun h => by rw [inn_iff.2 (hr.1 h)] at hi; cases hi)

set_option maxRecDepth 100000 in
set_option maxHeartbeats 2000000 in
theorem keep1_calls {w : World} {A : Option Addr} {n c v : Nat} {ns : List ByteArray} (h : NRow w A n c ns) (hmax : n ≤ 1000000) (hv : Blk w v 53 [.slice A n c]) (k : ByteArray) (x : Value) :
    Calls Try.prog 40 #[.string k, x, .pointer (some ⟨v, 0, none⟩)] w fun e w' => e = .returned (.bool (!inn ns k)) ∧ Step (fun _ => False) w w' := by
  have c0 := hv.cell (i := 0) rfl
  have HC := contains_calls h hmax k
  generalize inn ns k = m at *
  go_enter Try.func40, Try.ntmps40
  go_wp2_with (go_at_call 41; refine HC.mono ?_; rintro e1 w1 ⟨rfl, hs1⟩)
  go_ret
  exact ⟨rfl, hs1⟩

/-- What goes: names that are not in ns. -/
def goesD (ns : List ByteArray) : Lit → DataW Unit → Bool
  | .string bs, _ => !ns.any fun t => decide (t.data.toList = bs)
  | _, _ => false
theorem goesD_slit (ns : List ByteArray) (s : ByteArray) (d : DataW Unit) : goesD ns (slit s) d = !inn ns s := by
  show (!ns.any fun t => decide (t.data.toList = s.data.toList)) = !ns.any fun t => decide (t = s)
  congr 2
  funext t
  by_cases h : t = s
  · subst h; simp
  · have : t.data.toList ≠ s.data.toList := fun e => h (by
      cases t with | mk a => cases s with | mk b => cases a; cases b; simp_all)
    simp [h, this]
theorem kept_at (ns : List ByteArray) (s : ByteArray) (z : DataW Unit) : ∀ (es : List (Lit × DataW Unit)), (DataW.map (es.filter fun p => !goesD ns p.1 p.2)).atKey (slit s) z = if inn ns s = true then (DataW.map es).atKey (slit s) z else z
  | [] => by simp [DataW.atKey]
  | p :: r => by
    have ih := kept_at ns s z r
    by_cases hk : p.1.sameKey (slit s) = true
    · have e : p.1 = slit s := WideAt.sameKey_eq hk
      have hg : goesD ns p.1 p.2 = !inn ns s := by rw [e, goesD_slit]
      cases hi : inn ns s with
      | true =>
        rw [hi] at hg
        simp [List.filter_cons, hg, DataW.atKey, hk]
      | false =>
        rw [hi] at hg ih
        simp only [List.filter_cons, hg, Bool.not_false, Bool.not_true, Bool.false_eq_true, if_false]
        exact ih
    · have hk' : p.1.sameKey (slit s) = false := by simpa using hk
      by_cases hg : goesD ns p.1 p.2 = true
      · have e1 : ((p :: r).filter fun p => !goesD ns p.1 p.2) = r.filter fun p => !goesD ns p.1 p.2 := by simp [List.filter_cons, hg]
        have e2 : (DataW.map (p :: r)).atKey (slit s) z = (DataW.map r).atKey (slit s) z := by simp [DataW.atKey, hk']
        rw [e1, e2]; exact ih
      · have e1 : ((p :: r).filter fun p => !goesD ns p.1 p.2) = p :: r.filter fun p => !goesD ns p.1 p.2 := by simp [List.filter_cons, hg]
        have e2 : (DataW.map (p :: r)).atKey (slit s) z = (DataW.map r).atKey (slit s) z := by simp [DataW.atKey, hk']
        have e3 : (DataW.map (p :: r.filter fun p => !goesD ns p.1 p.2)).atKey (slit s) z = (DataW.map (r.filter fun p => !goesD ns p.1 p.2)).atKey (slit s) z := by simp [DataW.atKey, hk']
        rw [e1, e2, e3]; exact ih
/-- The marks of those names alone. -/
def keepF (ns : List ByteArray) (f : ByteArray → Int) : ByteArray → Int := fun s => if inn ns s = true then f s else 0

set_option maxHeartbeats 4000000 in
set_option maxRecDepth 100000 in
theorem mdel_calls {w : World} {b n v : Nat} {f : ByteArray → Int} {A : Option Addr} {m c : Nat} {ns : List ByteArray} (h : MInt w b n f) (hns : NRow w A m c ns) (hmax : m ≤ 1000000) (hv : Blk w v 53 [.slice A m c]) (hvb : v ≠ b) (hAb : ∀ k, blockOf A = some k → k ≠ b) :
    Calls Try.prog 39 #[.map (some b), .func (.func 40) #[] #[.pointer (some ⟨v, 0, none⟩)]] w fun e w' => e = .returned (.tuple #[]) ∧ MInt w' b n (keepF ns f) ∧ Step (· = b) w w' := by
  obtain ⟨D, hown, hf⟩ := h
  have hdel : ∀ (W : World) (key val : Value) (kl : Lit) (yd : DataW Unit) (yp : List MemPlace), w.grownBy W (some b) → keyOf Try.prog 9 key = some kl → plainElem Try.prog 3 val = some (yd, yp) →
      Calls Try.prog 40 (#[key, val] ++ #[.pointer (some ⟨v, 0, none⟩)]) W fun e w' => e = .returned (.bool (goesD ns kl yd)) ∧ W.grownBy w' none := by
    intro W key val kl yd yp hg hk hval
    obtain ⟨s, rfl, rfl, _⟩   := Go.WideMaps.string_of_keyOf Try.underlying9 hk
    have hst := step_of_grown_some hg
    rw [show goesD ns (Lit.string s.data.toList) yd = !inn ns s from goesD_slit ns s yd]
    refine (keep1_calls (hns.keep hst hAb) hmax (hv.keep hst hvb) s val).mono fun e w' h => ⟨h.1, ⟨h.2.os, h.2.tape, h.2.output, h.2.size, fun i hi _ => h.2.block i hi (fun h => h)⟩⟩
  obtain ⟨es0, rfl, hap, hkeys⟩ := hown.entries skeyed
  have HD := Lib.hid hdel
  clear hdel
  go_enter Try.func39, Try.ntmps39
  go_wp2_with (first
    | (at_range; refine wpList_range_own _ rfl _ 68 rfl 9 3 skeyed Try.underlying68 (plainElem Try.prog 3) b n _ rfl hown ?_; intro w0 hrg0 hg0 hs0)
    | go_in)
  go_frame
  go_loopw [8] (fun _ wr => ∃ (left : Lit → Bool) (cnt : Nat), wr.ranges Try.prog 9 (plainElem Try.prog 3) b w.heap.size n (Fk (goesD ns) es0 left) left cnt ∧ w.grownBy wr (some b))
    (fun _ wr => wr.rangeLeft b w.heap.size)
  case atStart => exact ⟨_, _, by rw [Fk_start hkeys]; exact hrg0, hg0.but _⟩
  case round =>
    obtain ⟨left, cnt, hrg, hgw⟩ := hrel
    go_wp2_with (first
      | (at_next; refine wpList_next_ranges _ rfl _ rfl 9 skeyed (plainElem Try.prog 3) id id (fun key _ _ => ⟨key, rfl⟩) (fun v _ _ => ⟨v, rfl⟩) b w.heap.size n _ _ _ rfl hrg ?_ ?_)
      | go_in)
    · intro _ hl0
      go_wp2
      go_end0
      refine ⟨rfl, ⟨_, by rw [Fk_end hl0] at hrg; exact hrg.owns, fun s => ?_⟩, step_of_grown_some hgw⟩
      show (DataW.map (es0.filter fun p => !goesD ns p.1 p.2)).atKey (slit s) _ = _
      rw [kept_at]
      unfold keepF
      cases hi : inn ns s with
      | true => simp only [if_true]; exact hf s
      | false => rfl
    · intro x c2 kl yd yp w1 cnt1 hkey hlx hv2 hat hrg1 hlt hg1 hs1 hen
      have hgw1 := hgw.andThen hg1 (fun j hj => by cases hj; exact Or.inl (Nat.le_refl _))
      have hc := HD.out w1 x c2 kl yd yp hgw1 hkey hv2
      have hbl := hrg1.owns.lt
      have hrl := hrg1.lt
      cases hp : goesD ns kl yd <;> rw [hp] at hc
      · go_wp2_with (first
          | (go_at_call 40; refine hc.mono ?_; rintro e w2 ⟨rfl, hg2⟩)
          | go_in)
        have hrg2 := hrg1.kept hg2 (by simp) (by simp)
        go_roundw
        case rel => exact ⟨_, cnt1, by rw [← Fk_stays hap (skeyed.key hkey) hlx hp hat]; exact hrg2, hgw1.andThen hg2 (fun j hj => by cases hj)⟩
        case measure => rw [hrg2.left_eq, hrg.left_eq]; exact hlt
      · go_wp2_with (first
          | (go_at_call 40; refine hc.mono ?_; rintro e w2 ⟨rfl, hg2⟩; have hrg2 := hrg1.kept hg2 (by simp) (by simp))
          | (at_delete; refine wpList_delete_ranges _ rfl _ _ 68 9 rfl 3 skeyed Try.underlying68 (plainElem Try.prog 3) b w.heap.size n _ _ _ rfl hrg2 _ _ rfl hkey ?_; intro w3 cnt3 hrg3 hle hturn; go_frame)
          | go_in)
        rw [strike_twice] at hrg3
        go_roundw
        case rel => exact ⟨_, cnt3, by rw [← Fk_struck hap (skeyed.key hkey) hlx hp hat]; exact hrg3, (hgw1.andThen hg2 (fun j hj => by cases hj)).andThen hturn.grown (fun j hj => by cases hj; exact Or.inr rfl)⟩
        case measure => rw [hrg3.left_eq, hrg.left_eq]; omega

set_option maxRecDepth 100000 in
set_option maxHeartbeats 2000000 in
theorem keep_calls {w : World} {p b n : Nat} {f : ByteArray → Int} {A : Option Addr} {m c : Nat} {ns : List ByteArray} (h : RAt w p b n f) (hns : NRow w A m c ns) (hmax : m ≤ 1000000) (hAb : ∀ k, blockOf A = some k → k ≠ b) :
    Calls Try.prog 28 #[.pointer (some ⟨p, 0, none⟩), .slice A m c] w fun e w' => e = .returned (.tuple #[]) ∧ RAt w' p b n (keepF ns f) ∧ Step (· = b) w w' := by
  go_enter Try.func28, Try.ntmps28
  go_upto_region 1 with (fail)
  refine alloc_next (cs := [.slice A m c]) ?_
  intro w1 hV hs1
  have h1 := h.keep hs1 (fun h => h) (fun h => h)
  have hbl := h.map.lt
  have HM := mdel_calls h1.map (hns.keep hs1 (fun _ _ h => h)) hmax hV (by omega) hAb
  have c0 := h1.blk.cell (i := 0) rfl
  generalize w.heap.size = vb at *
  go_wp2_with (go_at_call 39; refine HM.mono ?_; rintro e2 w2 ⟨rfl, hm2, hs2⟩)
  go_end0
  exact ⟨rfl, ⟨h1.blk.keep hs2 h1.ne, hm2, h1.ne⟩, (hs1.mono (fun _ _ h => h.elim)).same hs2⟩

set_option maxRecDepth 100000 in
set_option maxHeartbeats 2000000 in
/-- Pick of nobody. -/
theorem pick0_calls {w : World} {p b n : Nat} {f : ByteArray → Int} (h : RAt w p b n f) :
    Calls Try.prog 27 #[.pointer (some ⟨p, 0, none⟩), .slice none 0 0] w fun e w' => e = .returned (.tuple #[.string ⟨#[]⟩, .bool false]) ∧ Step (fun _ => False) w w' := by
  have HO : ∀ w : World, Calls Try.prog 37 #[.slice none 0 0] w fun e w' => (∃ A c, e = .returned (.slice A 0 c)) ∧ Step (fun _ => False) w w' := fun w => by
    have HC : ∀ w : World, Calls Try.prog 48 #[.slice none 0 0] w fun e w' => e = .returned (.slice none 0 0) ∧ w' = w := fun w => by
      have hnil := Lib.run_eql_slice_nil (P := Try.prog) w 74 67 none 0 0 0 0 Try.underlying74
      go_enter Try.func48, Try.ntmps48
      go_wp2
      go_ret
      exact ⟨rfl, rfl⟩
    have hmm := @run_makeMap Try.prog
    go_enter Try.func37, Try.ntmps37
    go_upto_region 2 with (fail)
    have e1 : (w.alloc (.map #[] 0)).heap.size = w.heap.size + 1 := by show (w.heap.push _).size = _; simp
    have hv := blk_new (w.alloc (.map #[] 0)) [.map (some w.heap.size)] 91
    rw [e1] at hv
    have hm := (mset_new w).keep (Step.alloc (Step.refl (fun _ => False) _) (.cells #[Value.map (some w.heap.size)] 91)) (fun h => h)
    have hs : Step (fun _ => False) w ((w.alloc (.map #[] 0)).alloc (.cells #[Value.map (some w.heap.size)] 91)) := ((Step.refl _ _).alloc _).alloc _
    generalize ((w.alloc (Obj.map #[] 0)).alloc (Obj.cells #[Value.map (some w.heap.size)] 91)) = w1 at *
    have hS0 : SetIs w1 w.heap.size 0 [] 0 := ⟨_, hm, fun t => by simp [had, dd]⟩
    have HD := delete_gen (A := none) (n := 0) (c := 0) (l := []) (fseg_nil w1 _ _) (fun k hk => by cases hk) hv hS0 (by omega) (fun e he => by cases he) (by omega)
    go_wp2_with (first | (go_at_call 48; refine (HC _).mono ?_; rintro e2 w2 ⟨rfl, rfl⟩) | (go_at_call 47; refine HD.mono ?_; rintro e3 w3 ⟨n3, rfl, hE3, hs3⟩))
    have hn3 : (dd ([] : List (ByteArray × Int)) 0).length = n3 := hE3.len
    have hn0 : n3 = 0 := by rw [← hn3]; rfl
    subst hn0
    go_ret
    exact ⟨⟨none, 0, rfl⟩, hs.trans hs3 (fun j hj e => by
      rcases e with e | e
      · omega
      · cases e)⟩
  have HO' := HO w
  go_enter Try.func27, Try.ntmps27
  go_wp2_with (go_at_call 37; refine HO'.mono ?_; rintro e2 w2 ⟨⟨A2, c2, rfl⟩, hs2⟩)
  go_loopw [13] (fun v13 wr => v13 = .int .i64 0 ∧ wr = w2) (fun v _ => 0)
  case atStart => exact ⟨rfl, rfl⟩
  case round =>
    obtain ⟨rfl, rfl⟩ := hrel
    go_wp2
    go_ret2
    exact ⟨rfl, hs2⟩
end Go.Proofs.Ytlmppdpjjkdoaab.Rot
