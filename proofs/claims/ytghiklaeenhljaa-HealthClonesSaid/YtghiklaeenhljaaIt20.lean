/- the document's agenda: rows of items; Drop, Set, Pop. Own work of this seat; no condition but on lengths. -/
import Derived.Test.YtghiklaeenhljaaRSeg
import Derived.Test.YtghiklaeenhljaaMHealthEpochs2
namespace Go.Proofs.Ytghiklaeenhljaa.It
open Go.RowKit Go.Proofs.Ytghiklaeenhljaa.Kit
set_option linter.unusedVariables false
set_option linter.unusedSimpArgs false

/-- What is to be done, and when. -/
structure It where
  key : ByteArray
  tm : Int
def itc (x : It) : List Value := [.string x.key, .int .i64 x.tm]
def itcs (l : List It) : List Value := l.flatMap itc
theorem itcs_append (l r : List It) : itcs (l ++ r) = itcs l ++ itcs r := by simp [itcs]
theorem itcs_one (x : It) : itcs [x] = itc x := by simp [itcs]
theorem itcs_length (l : List It) : (itcs l).length = l.length * 2 := by
  induction l with
  | nil => rfl
  | cons x r ih => simp only [itcs, itc, List.flatMap_cons, List.length_append, List.length_cons, List.length_nil] at ih ⊢; omega
theorem itcs_at {l : List It} {j : Nat} {e : It} (h : l[j]? = some e) : (itcs l)[j * 2 + 0]? = some (.string e.key) ∧ (itcs l)[j * 2 + 1]? = some (.int .i64 e.tm) := by
  have hl := (List.getElem?_eq_some_iff.1 h).1
  have e1 : itcs l = itcs (l.take j) ++ (itc e ++ itcs (l.drop (j + 1))) := by
    have h2 : l[j] = e := (List.getElem?_eq_some_iff.1 h).2
    have h3 : l = l.take j ++ (e :: l.drop (j + 1)) := by rw [← h2, ← List.drop_eq_getElem_cons hl, List.take_append_drop]
    have h4 := congrArg itcs h3
    rw [itcs_append] at h4
    exact h4
  have e2 : (itcs (l.take j)).length = j * 2 := by rw [itcs_length, List.length_take, Nat.min_eq_left (Nat.le_of_lt hl)]
  rw [e1]
  refine ⟨?_, ?_⟩
  · rw [List.getElem?_append_right (by omega), e2, Nat.add_sub_cancel_left]; rfl
  · rw [List.getElem?_append_right (by omega), e2, Nat.add_sub_cancel_left]; rfl
theorem itcs_drop (l : List It) (m : Nat) : itcs (l.drop m) = (itcs l).drop (m * 2) := by
  induction m generalizing l with
  | zero => simp
  | succ m ih =>
    cases l with
    | nil => simp [itcs]
    | cons x r =>
      rw [List.drop_succ_cons, ih, show (m + 1) * 2 = 2 + m * 2 by omega, ← List.drop_drop]
      rfl
theorem itc_cell (x : It) : ∀ v ∈ itc x, v.oneCell' = true := by
  intro v hv
  simp only [itc, List.mem_cons, List.not_mem_nil, or_false] at hv
  rcases hv with rfl | rfl <;> rfl
/-- Rows of items: one's own; read. -/
def IW (w : World) (A : Option Addr) (n c : Nat) (l : List It) : Prop := FSeg w 104 2 A n c (itcs l)
def IRd (w : World) (A : Option Addr) (n : Nat) (l : List It) : Prop := RSeg w 2 A n (itcs l)
section
variable {w w' : World} {A : Option Addr} {n c : Nat} {l : List It} {F : Nat → Prop}
theorem IW.len (h : IW w A n c l) : l.length = n := by have := h.1; rw [itcs_length] at this; omega
theorem IRd.len (h : IRd w A n l) : l.length = n := by have := h.1; rw [itcs_length] at this; omega
theorem IW.rd (h : IW w A n c l) : IRd w A n l := FSeg.rseg h
theorem IW.keep (h : IW w A n c l) (hs : Step F w w') (hF : ∀ j, blockOf A = some j → ¬ F j) : IW w' A n c l := FSeg.keep h hs hF
theorem IRd.keep (h : IRd w A n l) (hs : Step F w w') (hF : ∀ j, blockOf A = some j → ¬ F j) : IRd w' A n l := RSeg.keep h hs hF
theorem IRd.same (h : IRd w A n l) (hs : Step (fun _ => False) w w') : IRd w' A n l := RSeg.same h hs
end
theorem i0it : ∃ i, Try.prog.info? 104 = some i ∧ i.zero = some (.agg #[.string ⟨#[]⟩, .int .i64 0]) ∧ i.size = 2 ∧ i.bytes = 24 := by
  obtain ⟨i, hi, hp⟩ := Option.map_eq_some_iff.1 (by kernel_rfl : (Try.prog.info? 104).map (fun i => (i.zero, i.size, i.bytes)) = some (some (.agg #[.string ⟨#[]⟩, .int .i64 0]), 2, 24))
  simp only [Prod.mk.injEq] at hp
  exact ⟨i, hi, hp⟩
theorem app_it {w : World} {A : Option Addr} {n c b : Nat} {l : List It} {x : It} (h : IW w A n c l) (hB : Blk w b 104 (itc x)) (hb : n + 1 ≤ 1000000) :
    ∃ A' c' w', (Builtin.append_ #[58, 58] 58 #[.slice A n c, .slice (some ⟨b, 0, none⟩) 1 1]).run Try.prog w = .ok (.slice A' (n + 1) c') w' ∧ IW w' A' (n + 1) c' (l ++ [x]) ∧ Step (fun k => blockOf A = some k) w w' ∧ (blockOf A' = blockOf A ∨ ∃ k, blockOf A' = some k ∧ w.heap.size ≤ k) := by
  obtain ⟨i0, hi0, hz0, hs0, hy0⟩ := i0it
  unfold IW
  rw [itcs_append, itcs_one]
  exact run_app_one 58 104 Try.underlying58 hi0 hz0 rfl hs0 hy0 (by omega) h rfl (itc_cell x) hB hb

/-- One item more in a row of the call's own. -/
theorem app_step {w w1 : World} {B : Option Addr} {m cB : Nat} {l : List It} (hst : Step (fun _ => False) w w1) (hB : IW w1 B m cB l) (hBf : ∀ k, blockOf B = some k → w.heap.size ≤ k) (hb : m + 1 ≤ 1000000) (xk : ByteArray) (xt : Int) :
    ∃ B' c' w', (Builtin.append_ #[58, 58] 58 #[.slice B m cB, .slice (some ⟨w1.heap.size, 0, none⟩) 1 1]).run Try.prog (w1.alloc (.cells #[.string xk, .int .i64 xt] 104)) = .ok (.slice B' (m + 1) c') w' ∧
      IW w' B' (m + 1) c' (l ++ [⟨xk, xt⟩]) ∧ (∀ k, blockOf B' = some k → w.heap.size ≤ k) ∧ Step (fun _ => False) w w' ∧ Step (fun k => blockOf B = some k) w1 w' := by
  have hal : Step (fun _ => False) w1 (w1.alloc (.cells #[.string xk, .int .i64 xt] 104)) := (Step.refl _ _).alloc _
  obtain ⟨B5, c5, w5, hap, hB6, hs5, hn5⟩ := app_it (x := ⟨xk, xt⟩) (hB.keep hal (fun _ _ h => h)) (blk_new w1 (itc ⟨xk, xt⟩) 104) hb
  have hz4 := hst.size
  have hz6 := hal.size
  refine ⟨B5, c5, w5, hap, hB6, fun k hk => ?_, (hst.same hal).trans hs5 (fun j hj h => by have := hBf j h; omega), (hal.mono (fun _ _ h => h.elim)).same hs5⟩
  rcases hn5 with e | ⟨j, e, hj⟩
  · exact hBf k (e ▸ hk)
  · rw [hk] at e
    obtain rfl := Option.some.inj e
    omega
theorem bytes_ne {t s : ByteArray} (h : t ≠ s) : (t.toList == s.toList) = false := by
  rw [← beq_toListBytes]
  cases t with | mk a => cases s with | mk b =>
    have hab : a ≠ b := fun e => h (by rw [e])
    show (a == b) = false
    exact beq_eq_false_iff_ne.2 hab
theorem bytes_same (s : ByteArray) : (s.toList == s.toList) = true := by simp

/-- Without a key. -/
def itDrop (l : List It) (s : ByteArray) : List It := l.filter (fun x => decide (x.key ≠ s))
theorem itDrop_take {l : List It} {s : ByteArray} {i : Nat} {x : It} (h : l[i]? = some x) : itDrop (l.take (i + 1)) s = itDrop (l.take i) s ++ (if x.key = s then [] else [x]) := by
  unfold itDrop
  rw [List.take_add_one, h, List.filter_append]
  by_cases e : x.key = s <;> simp [e]
set_option maxRecDepth 100000 in
set_option maxHeartbeats 1000000 in
theorem drop_calls {w : World} {A : Option Addr} {n c : Nat} {l : List It} (h : IRd w A n l) (hn : n ≤ 100000) (s : ByteArray) :
    Calls Try.prog 61 #[.slice A n c, .string s] w fun e w' => ∃ B cB, e = .returned (.tuple #[.slice B (itDrop l s).length cB, .bool (decide ((itDrop l s).length < n))]) ∧ IW w' B (itDrop l s).length cB (itDrop l s) ∧ (∀ k, blockOf B = some k → w.heap.size ≤ k) ∧ Step (fun _ => False) w w' := by
  have hlen := h.len
  have HH := Lib.hid h
  have HLN := Lib.hid hlen
  clear h hlen
  go_enter Try.func61, Try.ntmps61
  go_upto_region 2 with (fail)
  have hB0 : IW (w.alloc (.cells #[] 104)) (some ⟨w.heap.size, 0, none⟩) 0 0 [] := ⟨rfl, .inr ⟨w.heap.size, #[], rfl, by show (w.heap.push _)[w.heap.size]? = _; simp, Nat.le_refl _, Nat.le_refl _, fun j v hj => by simp [itcs] at hj⟩⟩
  have hs0 : Step (fun _ => False) w (w.alloc (.cells #[] 104)) := (Step.refl _ _).alloc _
  generalize hw0 : w.alloc (.cells #[] 104) = w0 at *
  have hf0 : ∀ k, blockOf (some (⟨w.heap.size, 0, none⟩ : Addr)) = some k → w.heap.size ≤ k := fun k hk => by
    obtain rfl : w.heap.size = k := Option.some.inj hk
    exact Nat.le_refl _
  clear hw0
  generalize (some (⟨w.heap.size, 0, none⟩ : Addr)) = A0 at *
  go_wp2
  go_loopw [6, 12] (fun v6 v12 wr => ∃ (i m : Nat) (B : Option Addr) (cB : Nat), v12 = .int .i64 (i : Int) ∧ v6 = .slice B m cB ∧ i ≤ n ∧ m = (itDrop (l.take i) s).length ∧ m ≤ i ∧ IW wr B m cB (itDrop (l.take i) s) ∧ (∀ k, blockOf B = some k → w.heap.size ≤ k) ∧ Step (fun _ => False) w wr) (fun _ v _ => n - (intOf v).toNat)
  case atStart => exact ⟨0, 0, A0, 0, rfl, rfl, Nat.zero_le _, rfl, Nat.le_refl _, hB0, hf0, hs0⟩
  case round =>
    clear hB0 hf0 hs0
    obtain ⟨i, m, B, cB, rfl, rfl, hi, hm, hmi, hB, hBf, hst⟩ := hrel
    by_cases hin : i < n
    · have hin' : ((i : Int) < (n : Int)) := by omega
      have hR := HH.out.same hst
      obtain ⟨g, o, rfl⟩ := RSeg.isSome hR (by omega) (by omega)
      obtain ⟨x, hx⟩ : ∃ x, l[i]? = some x := ⟨_, List.getElem?_eq_getElem (by rw [HLN.out]; exact hin)⟩
      obtain ⟨g0, g1⟩ := itcs_at hx
      have a0 := RSeg.cell hR g0
      have a1 := RSeg.cell' hR g1
      have HTK := Lib.hid (itDrop_take (s := s) hx)
      rw [Nat.add_zero] at a0
      obtain ⟨xk, xt⟩ := x
      simp only at a0 a1 HTK
      have HM := Lib.hid hm
      clear hR hx g0 g1 hm
      go_upto_region 5 with (fail)
      refine alloc_next (cs := [.string xk, .int .i64 xt]) ?_
      intro w1 hX hs1
      have hst1 := hst.same hs1
      have hB1 := hB.keep hs1 (fun _ _ h => h)
      have x0 := hX.cell (i := 0) rfl
      have x1 := hX.cell (i := 1) rfl
      clear a0 a1 hB
      generalize wr.heap.size = xb at *
      by_cases hk : xk = s
      · have hsa : (xk.toList == s.toList) = true := by rw [hk]; exact bytes_same s
        have HT : Hid (itDrop (l.take (i + 1)) s = itDrop (l.take i) s) := Lib.hid (by rw [HTK.out, if_pos hk, List.append_nil])
        have HB1 := Lib.hid hB1
        clear hk hB1 HTK
        go_wp2
        go_roundw
        case rel => exact ⟨i + 1, m, B, cB, by go_num, rfl, by omega, by rw [HT.out]; exact HM.out, by omega, by rw [HT.out]; exact HB1.out, hBf, hst1⟩
        case measure => simp [intOf]; omega
      · have hsa : (xk.toList == s.toList) = false := bytes_ne hk
        have HT : Hid (itDrop (l.take (i + 1)) s = itDrop (l.take i) s ++ [⟨xk, xt⟩]) := Lib.hid (by rw [HTK.out, if_neg hk])
        clear hk HTK
        go_upto_region 6 with (fail)
        have hal : Step (fun _ => False) w1 (w1.alloc (.cells #[.string xk, .int .i64 xt] 104)) := (Step.refl _ _).alloc _
        obtain ⟨B5, c5, w5, hap, hB6, hs5, hn5⟩ := app_it (x := ⟨xk, xt⟩) (hB1.keep hal (fun _ _ h => h)) (blk_new w1 (itc ⟨xk, xt⟩) 104) (by omega)
        have hst4 := hst1.same hal
        have hz4 := hst1.size
        have hz6 := hal.size
        have hst5 : Step (fun _ => False) w w5 := hst4.trans hs5 (fun j hj h => by have := hBf j h; omega)
        have hB5f : ∀ k, blockOf B5 = some k → w.heap.size ≤ k := fun k hk => by
          rcases hn5 with e | ⟨j, e, hj⟩
          · exact hBf k (e ▸ hk)
          · rw [hk] at e
            obtain rfl := Option.some.inj e
            omega
        have HB6 := Lib.hid hB6
        have HST5 := Lib.hid hst5
        clear hB6 hst5 hst4 hs5 hn5 hal hB1
        go_wp2_with (at_builtin; refine wpList_app1 (by rfl) (.tmp 20) (.tmp 22) 58 (by rfl) (by rfl) (by rfl) hap ?_)
        go_roundw
        case rel => exact ⟨i + 1, m + 1, B5, c5, by go_num, rfl, by omega, by rw [HT.out, List.length_append, ← HM.out]; rfl, by omega, by rw [HT.out]; exact HB6.out, hB5f, HST5.out⟩
        case measure => simp [intOf]; omega
    · obtain rfl : i = n := by omega
      have hin' : ¬ ((i : Int) < (i : Int)) := by omega
      rw [List.take_of_length_le (by rw [HLN.out]; exact Nat.le_refl _)] at hB hm
      have HM := Lib.hid hm
      have HB := Lib.hid hB
      clear hm hB
      go_wp2
      go_ret2
      exact ⟨B, cB, by rw [← HM.out]; first | rfl | (congr 3; simp), by rw [← HM.out]; exact HB.out, hBf, hst⟩

def clipI (x : Int) : Int := max 0 (min x 1099511627776)
theorem clipI_if (x : Int) : (if (0 : Int) < (if (1099511627776 : Int) < x then 1099511627776 else x) then (if (1099511627776 : Int) < x then 1099511627776 else x) else 0) = clipI x := by
  unfold clipI
  split <;> split <;> omega
/-- How far a new item is in: the row so far, and is it in? -/
def outS (l : List It) (e : It) : List It × Bool := if l.all (fun x => decide (x.tm ≤ e.tm)) = true then (l, false) else (l.takeWhile (fun x => decide (x.tm ≤ e.tm)) ++ e :: l.dropWhile (fun x => decide (x.tm ≤ e.tm)), true)
def itIns (l : List It) (e : It) : List It := l.takeWhile (fun x => decide (x.tm ≤ e.tm)) ++ e :: l.dropWhile (fun x => decide (x.tm ≤ e.tm))
def itSet (l : List It) (s : ByteArray) (n : Int) : List It := itIns (itDrop l s) ⟨s, clipI n⟩
theorem tw_all {α : Type} {p : α → Bool} : ∀ {l : List α}, l.all p = true → l.takeWhile p = l ∧ l.dropWhile p = []
  | [], _ => ⟨rfl, rfl⟩
  | x :: l, h => by
    rw [List.all_cons, Bool.and_eq_true] at h
    obtain ⟨h1, h2⟩ := tw_all h.2
    rw [List.takeWhile_cons, List.dropWhile_cons, h.1]
    exact ⟨by simp [h1], by simp [h2]⟩
theorem tw_snoc {α : Type} {p : α → Bool} {x : α} : ∀ {l : List α}, l.all p = false → (l ++ [x]).takeWhile p = l.takeWhile p ∧ (l ++ [x]).dropWhile p = l.dropWhile p ++ [x]
  | [], h => by simp at h
  | y :: l, h => by
    rw [List.cons_append, List.takeWhile_cons, List.dropWhile_cons, List.takeWhile_cons, List.dropWhile_cons]
    rw [List.all_cons] at h
    cases hp : p y with
    | true =>
      rw [hp, Bool.true_and] at h
      obtain ⟨h1, h2⟩ := tw_snoc (x := x) h
      simp [h1, h2]
    | false => simp
theorem tw_hit {α : Type} {p : α → Bool} {x : α} (hx : p x = false) : ∀ {l : List α}, l.all p = true → (l ++ [x]).takeWhile p = l ∧ (l ++ [x]).dropWhile p = [x]
  | [], _ => by simp [hx]
  | y :: l, h => by
    rw [List.all_cons, Bool.and_eq_true] at h
    obtain ⟨h1, h2⟩ := tw_hit hx h.2
    rw [List.cons_append, List.takeWhile_cons, List.dropWhile_cons, h.1]
    exact ⟨by simp [h1], by simp [h2]⟩
theorem outS_nil (e : It) : outS [] e = ([], false) := rfl
theorem outS_done {l : List It} {e x : It} (h : (outS l e).2 = true) : outS (l ++ [x]) e = ((outS l e).1 ++ [x], true) := by
  unfold outS at h ⊢
  cases ha : l.all (fun x => decide (x.tm ≤ e.tm)) with
  | true => rw [ha] at h; simp at h
  | false =>
    obtain ⟨h1, h2⟩ := tw_snoc (x := x) ha
    rw [if_neg (by rw [List.all_append, ha]; simp), if_neg (by simp), h1, h2]
    simp
theorem outS_late {l : List It} {e x : It} (h : (outS l e).2 = false) (hx : ¬ x.tm ≤ e.tm) : outS (l ++ [x]) e = ((outS l e).1 ++ [e] ++ [x], true) := by
  unfold outS at h ⊢
  cases ha : l.all (fun x => decide (x.tm ≤ e.tm)) with
  | false => rw [ha] at h; simp at h
  | true =>
    have hpx : (fun x : It => decide (x.tm ≤ e.tm)) x = false := by simpa using hx
    obtain ⟨h1, h2⟩ := tw_hit (p := fun x : It => decide (x.tm ≤ e.tm)) hpx ha
    rw [if_neg (by rw [List.all_append, ha, List.all_cons, decide_eq_false hx]; simp), if_pos rfl, h1, h2]
    simp
theorem outS_soon {l : List It} {e x : It} (h : (outS l e).2 = false) (hx : x.tm ≤ e.tm) : outS (l ++ [x]) e = ((outS l e).1 ++ [x], false) := by
  unfold outS at h ⊢
  cases ha : l.all (fun x => decide (x.tm ≤ e.tm)) with
  | false => rw [ha] at h; simp at h
  | true =>
    have hpx : (fun x : It => decide (x.tm ≤ e.tm)) x = true := by simpa using hx
    rw [if_pos (by rw [List.all_append, ha, List.all_cons, decide_eq_true hx]; rfl), if_pos rfl]
theorem outS_end (l : List It) (e : It) : (if (outS l e).2 = true then (outS l e).1 else (outS l e).1 ++ [e]) = itIns l e := by
  unfold outS itIns
  cases ha : l.all (fun x => decide (x.tm ≤ e.tm)) with
  | false => simp
  | true =>
    obtain ⟨h1, h2⟩ := tw_all ha
    rw [if_pos rfl, h1, h2]
    simp
theorem outS_len (l : List It) (e : It) : (outS l e).1.length ≤ l.length + 1 := by
  unfold outS
  split
  · simp
  · have := congrArg List.length (List.takeWhile_append_dropWhile (p := fun x : It => decide (x.tm ≤ e.tm)) (l := l))
    rw [List.length_append] at this
    simp only [List.length_append, List.length_cons]
    omega
theorem itIns_len (l : List It) (e : It) : (itIns l e).length = l.length + 1 := by
  unfold itIns
  have := congrArg List.length (List.takeWhile_append_dropWhile (p := fun x : It => decide (x.tm ≤ e.tm)) (l := l))
  rw [List.length_append] at this
  simp only [List.length_append, List.length_cons]
  omega
theorem itDrop_le (l : List It) (s : ByteArray) : (itDrop l s).length ≤ l.length := List.length_filter_le _ _
set_option maxRecDepth 100000 in
set_option maxHeartbeats 2000000 in
theorem set_calls {w : World} {A : Option Addr} {n c : Nat} {l : List It} (h : IRd w A n l) (hn : n ≤ 100000) (s : ByteArray) (v : Int) :
    Calls Try.prog 73 #[.slice A n c, .string s, .int .i64 v] w fun e w' => ∃ B cB, e = .returned (.slice B (itSet l s v).length cB) ∧ IW w' B (itSet l s v).length cB (itSet l s v) ∧ (∀ k, blockOf B = some k → w.heap.size ≤ k) ∧ Step (fun _ => False) w w' := by
  have hlen := h.len
  have hcl := clipI_if v
  have hcl2 : max 0 (min v 1099511627776) = clipI v := rfl
  unfold itSet
  have HD := Lib.hid (drop_calls (c := c) h hn s)
  have hdl := itDrop_le l s
  rw [hlen] at hdl
  clear h hlen
  generalize clipI v = v' at *
  generalize itDrop l s = r at *
  obtain ⟨mq, hmq⟩ : ∃ mq, (if (1099511627776 : Int) < v then 1099511627776 else v) = mq := ⟨_, rfl⟩
  rw [hmq] at hcl
  go_enter Try.func73, Try.ntmps73
  go_upto_region 2 with (fail)
  clear hcl hmq hcl2
  go_upto_region 3 with (go_at_call 61; refine HD.out.mono ?_; rintro e1 w1 ⟨R, cR, rfl, hR1, hRf1, hs1⟩)
  have hRr := hR1.rd
  have HR := Lib.hid hRr
  have hRl := hR1.len
  obtain ⟨m0, hm0⟩ : ∃ m0, r.length = m0 := ⟨_, rfl⟩
  rw [hm0] at hdl HR
  have HLN := Lib.hid hm0
  simp only [hm0]
  clear HD hRr hR1 hRl hm0
  go_upto_region 5 with (fail)
  have hB0 : IW (w1.alloc (.cells #[] 104)) (some ⟨w1.heap.size, 0, none⟩) 0 0 [] := ⟨rfl, .inr ⟨w1.heap.size, #[], rfl, by show (w1.heap.push _)[w1.heap.size]? = _; simp, Nat.le_refl _, Nat.le_refl _, fun j v hj => by simp [itcs] at hj⟩⟩
  have hs0 : Step (fun _ => False) w1 (w1.alloc (.cells #[] 104)) := (Step.refl _ _).alloc _
  have hst0 : Step (fun _ => False) w (w1.alloc (.cells #[] 104)) := hs1.same hs0
  have hz1 := hs1.size
  have hf0 : ∀ k, blockOf (some (⟨w1.heap.size, 0, none⟩ : Addr)) = some k → w.heap.size ≤ k := fun k hk => by
    obtain rfl : w1.heap.size = k := Option.some.inj hk
    exact hz1
  have hg0 : ∀ k, blockOf (some (⟨w1.heap.size, 0, none⟩ : Addr)) = some k → w1.heap.size ≤ k := fun k hk => by
    obtain rfl : w1.heap.size = k := Option.some.inj hk
    exact Nat.le_refl _
  generalize hw0 : w1.alloc (.cells #[] 104) = w0 at *
  clear hw0
  generalize (some (⟨w1.heap.size, 0, none⟩ : Addr)) = A0 at *
  clear hs1
  go_wp2
  go_loopw [10, 11, 26] (fun v10 v11 v26 wr => ∃ (i m : Nat) (d : Bool) (B : Option Addr) (cB : Nat), v26 = .int .i64 (i : Int) ∧ v10 = .slice B m cB ∧ v11 = .bool d ∧ i ≤ m0 ∧ m = (outS (r.take i) ⟨s, v'⟩).1.length ∧ d = (outS (r.take i) ⟨s, v'⟩).2 ∧ m ≤ i + 1 ∧ IW wr B m cB (outS (r.take i) ⟨s, v'⟩).1 ∧ (∀ k, blockOf B = some k → w1.heap.size ≤ k) ∧ Step (fun _ => False) w1 wr ∧ Step (fun _ => False) w wr) (fun _ _ v _ => m0 - (intOf v).toNat)
  case atStart => exact ⟨0, 0, false, A0, 0, rfl, rfl, rfl, Nat.zero_le _, rfl, rfl, by omega, hB0, hg0, hs0, hst0⟩
  case round =>
    clear hB0 hf0 hs0 hg0 hst0
    obtain ⟨i, m, d, B, cB, rfl, rfl, rfl, hi, hm, hd, hmi, hB, hBf, hst, hst'⟩ := hrel
    by_cases hin : i < m0
    · have hin' : ((i : Int) < (m0 : Int)) := by omega
      have hR := HR.out.same hst
      obtain ⟨g, o, rfl⟩ := RSeg.isSome hR (by omega) (by omega)
      obtain ⟨x, hx⟩ : ∃ x, r[i]? = some x := ⟨_, List.getElem?_eq_getElem (by rw [HLN.out]; exact hin)⟩
      obtain ⟨g0, g1⟩ := itcs_at hx
      have a0 := RSeg.cell hR g0
      have a1 := RSeg.cell' hR g1
      have htk : r.take (i + 1) = r.take i ++ [x] := by rw [List.take_add_one, hx]; rfl
      rw [Nat.add_zero] at a0
      obtain ⟨xk, xt⟩ := x
      simp only at a0 a1
      have HM := Lib.hid hm
      have HD := Lib.hid hd
      have HTK := Lib.hid htk
      have HLE := Lib.hid (fun (y : It) => outS_len (r.take i ++ [y]) ⟨s, v'⟩)
      clear hR hx g0 g1 hm hd htk
      go_upto_region 8 with (fail)
      refine alloc_next (cs := [.string xk, .int .i64 xt]) ?_
      intro w2 hX hs2
      have hst1 := hst.same hs2
      have hst1' := hst'.same hs2
      have hB1 := hB.keep hs2 (fun _ _ h => h)
      have HBW := Lib.hid (fun k (hk : blockOf B = some k) => (FSeg.lt hB hk : k < wr.heap.size))
      clear a0 a1 hB
      obtain ⟨xb, hxb⟩ : ∃ xb, wr.heap.size = xb := ⟨_, rfl⟩
      rw [hxb] at hX HBW ⊢
      have hBx : ∀ k, blockOf B = some k → k ≠ xb := fun k hk => by have := FSeg.lt hB1 hk; have := HBW.out k hk; omega
      clear hxb
      have x1 := hX.cell (i := 1) rfl
      cases d with
      | true =>
        have x0 := hX.cell (i := 0) rfl
        have HS := Lib.hid (outS_done (x := ⟨xk, xt⟩) HD.out.symm)
        have HLB : m + 1 ≤ i + 1 + 1 := by
          have h1 := HLE.out ⟨xk, xt⟩
          rw [HS.out, List.length_append, List.length_append, ← HM.out, List.length_take] at h1
          simp only [List.length_cons, List.length_nil] at h1
          omega
        go_upto_region 11 with (fail)
        obtain ⟨B5, c5, w5, hap, hB6, hB5f, hst5, hks5⟩ := app_step hst1 hB1 hBf (by omega) xk xt
        have HB6 := Lib.hid hB6
        have HST5 := Lib.hid (hst1'.trans hks5 (fun j hj h => by have := hBf j h; omega))
        have HST6 := Lib.hid hst5
        clear hB6 hst5 hks5
        go_wp2_with (at_builtin; refine wpList_app1 (by rfl) (.tmp 44) (.tmp 46) 58 (by rfl) (by rfl) (by rfl) hap ?_)
        go_roundw
        case rel => exact ⟨i + 1, m + 1, true, B5, c5, by go_num, rfl, rfl, by omega, by rw [HTK.out, HS.out, List.length_append, ← HM.out]; rfl, by rw [HTK.out, HS.out], HLB, by rw [HTK.out, HS.out]; exact HB6.out, hB5f, HST6.out, HST5.out⟩
        case measure => simp [intOf]; omega
      | false =>
        by_cases hlate : xt ≤ v'
        · have HS := Lib.hid (outS_soon (x := ⟨xk, xt⟩) HD.out.symm hlate)
          have HLB : m + 1 ≤ i + 1 + 1 := by omega
          have hgt : ¬ (xt > v') := by omega
          clear hlate
          go_upto_region 11 with (fail)
          have x0 := hX.cell (i := 0) rfl
          obtain ⟨B5, c5, w5, hap, hB6, hB5f, hst5, hks5⟩ := app_step hst1 hB1 hBf (by omega) xk xt
          have HB6 := Lib.hid hB6
          have HST5 := Lib.hid (hst1'.trans hks5 (fun j hj h => by have := hBf j h; omega))
          have HST6 := Lib.hid hst5
          clear hB6 hst5 hks5
          go_wp2_with (at_builtin; refine wpList_app1 (by rfl) (.tmp 44) (.tmp 46) 58 (by rfl) (by rfl) (by rfl) hap ?_)
          go_roundw
          case rel => exact ⟨i + 1, m + 1, false, B5, c5, by go_num, rfl, rfl, by omega, by rw [HTK.out, HS.out, List.length_append, ← HM.out]; rfl, by rw [HTK.out, HS.out], HLB, by rw [HTK.out, HS.out]; exact HB6.out, hB5f, HST6.out, HST5.out⟩
          case measure => simp [intOf]; omega
        · have HS := Lib.hid (outS_late (x := ⟨xk, xt⟩) HD.out.symm hlate)
          have hml : m ≤ i := by
            have h1 := HLE.out ⟨xk, xt⟩
            rw [HS.out, List.length_append, List.length_append, ← HM.out, List.length_append, List.length_take] at h1
            simp only [List.length_cons, List.length_nil] at h1
            omega
          have hgt : xt > v' := by omega
          clear hlate
          go_upto_region 9 with (fail)
          obtain ⟨B4, c4, w4, hap4, hB4, hB4f, hst4, hks4⟩ := app_step hst1 hB1 hBf (by omega) s v'
          have hX4 := hX.keep hks4 (fun h => hBx _ h rfl)
          have hst4' := hst1'.trans hks4 (fun j hj h => by have := hBf j h; omega)
          clear hks4 hX x1
          go_upto_region 10 with (at_builtin; refine wpList_app1 (by rfl) (.tmp 38) (.tmp 42) 58 (by rfl) (by rfl) (by rfl) hap4 ?_)
          have x0 := hX4.cell (i := 0) rfl
          have x1 := hX4.cell (i := 1) rfl
          go_upto_region 11 with (fail)
          obtain ⟨B5, c5, w5, hap, hB6, hB5f, hst5, hks5⟩ := app_step hst4 hB4 hB4f (by omega) xk xt
          have HB6 := Lib.hid hB6
          have HST5 := Lib.hid (hst4'.trans hks5 (fun j hj h => by have := hB4f j h; omega))
          have HST6 := Lib.hid hst5
          clear hB6 hst5 hks5 hap4 hB4
          go_wp2_with (at_builtin; refine wpList_app1 (by rfl) (.tmp 44) (.tmp 46) 58 (by rfl) (by rfl) (by rfl) hap ?_)
          go_roundw
          case rel => exact ⟨i + 1, m + 1 + 1, true, B5, c5, by go_num, rfl, rfl, by omega, by rw [HTK.out, HS.out, List.length_append, List.length_append, ← HM.out]; rfl, by rw [HTK.out, HS.out], by omega, by rw [HTK.out, HS.out]; exact HB6.out, hB5f, HST6.out, HST5.out⟩
          case measure => simp [intOf]; omega
    · obtain rfl : i = m0 := by omega
      have hin' : ¬ ((i : Int) < (i : Int)) := by omega
      rw [List.take_of_length_le (by rw [HLN.out]; exact Nat.le_refl _)] at hB hm hd
      have HE := Lib.hid (outS_end r ⟨s, v'⟩)
      have HM := Lib.hid hm
      have HD := Lib.hid hd
      have hmb : m ≤ i + 1 := hmi
      clear hm hd hmi
      cases d with
      | true =>
        have HE2 : Hid ((outS r ⟨s, v'⟩).1 = itIns r ⟨s, v'⟩) := Lib.hid (by have := HE.out; rw [if_pos HD.out.symm] at this; exact this)
        rw [HE2.out] at hB HM
        have HB := Lib.hid hB
        clear HE HE2 hB HD
        go_wp2
        go_ret
        exact ⟨B, cB, by rw [← HM.out]; rfl, by rw [← HM.out]; exact HB.out, fun k hk => by have := hBf k hk; omega, hst'⟩
      | false =>
        have HE2 : Hid ((outS r ⟨s, v'⟩).1 ++ [⟨s, v'⟩] = itIns r ⟨s, v'⟩) := Lib.hid (by have := HE.out; rw [if_neg (by rw [← HD.out]; simp)] at this; exact this)
        go_upto_region 14 with (fail)
        obtain ⟨B4, c4, w4, hap4, hB4, hB4f, hst4, hks4⟩ := app_step hst hB hBf (by omega) s v'
        rw [HE2.out] at hB4
        have hst4' := hst'.trans hks4 (fun j hj h => by have := hBf j h; omega)
        have HL : Hid ((itIns r ⟨s, v'⟩).length = m + 1) := Lib.hid (by rw [← HE2.out, List.length_append, ← HM.out]; rfl)
        have HB := Lib.hid hB4
        clear HE HE2 hB hB4 HD hst4 hks4
        go_wp2_with (at_builtin; refine wpList_app1 (by rfl) (.tmp 51) (.tmp 55) 58 (by rfl) (by rfl) (by rfl) hap4 ?_)
        go_ret
        exact ⟨B4, c4, by rw [HL.out]; rfl, by rw [HL.out]; exact HB.out, fun k hk => by have := hB4f k hk; omega, hst4'⟩

theorem post_tct {P : Program} {fn : Func} {R : Ending → World → Prop} {p u v : Tmp} {ty : TypeId} (h : fn.results = #[.tmp u, .cell p ty, .tmp v]) {a : Act} {w : World} {g : Nat} {T : TypeId} {cs : List Value} {d : TypeDesc} {vu vv : Value} (hp : a.tmps.getD p undef = .pointer (some ⟨g, 0, none⟩)) (hE : Blk w g T cs)
    (hu : P.underlying ty = some d) (hd : (match d with | .struct _ | .array _ _ => true | _ => false) = true) (hi : (P.info? ty).map (·.size) = some cs.length) (hvu : a.tmps.getD u undef = vu) (hvv : a.tmps.getD v undef = vv) (hdef : a.defers = []) (hR : R (.returned (.tuple #[vu, .agg cs.toArray, vv])) w) : bodyPost P fn R .ret a w := by
  refine bodyPost_ret ?_ hdef hR
  have hr := run_loadVar_row (P := P) w g T ty cs.toArray (0, 0) d hE hu hd (by simpa using hi)
  have hp' : a.tmps[p]?.getD undef = .pointer (some ⟨g, 0, none⟩) := by simpa using hp
  have hu' : a.tmps[u]?.getD undef = vu := by simpa using hvu
  have hv' : a.tmps[v]?.getD undef = vv := by simpa using hvv
  simp [results, h, hp', hu', hv', asAddr, hr]
set_option maxRecDepth 100000 in
set_option maxHeartbeats 1000000 in
theorem pop_none {w : World} {A : Option Addr} {n c : Nat} {l : List It} (h : IRd w A n l) (hn : n ≤ 100000) (now : Int) (hno : ∀ x ∈ l.head?, now < x.tm) :
    Calls Try.prog 62 #[.slice A n c, .int .i64 now] w fun e w' => e = .returned (.tuple #[.slice A n c, .agg #[.string ⟨#[]⟩, .int .i64 0], .bool false]) ∧ Step (fun _ => False) w w' := by
  have hlen := h.len
  cases l with
  | nil =>
    obtain rfl : n = 0 := hlen.symm
    clear hno h hlen
    go_enter Try.func62, Try.ntmps62
    go_upto_region 1 with (fail)
    refine alloc_next (cs := [.string ⟨#[]⟩, .int .i64 0]) ?_
    intro w1 hR hs1
    obtain ⟨rb, hrb⟩ : ∃ rb, w.heap.size = rb := ⟨_, rfl⟩
    rw [hrb] at hR ⊢
    have HRB := Lib.hid hrb
    clear hrb
    go_wp2_with (refine wpList_store_blk rfl 104 (.tmp 5) (.tmp 19) rfl hR rfl (vs := [.string ⟨#[]⟩, .int .i64 0]) rfl (by kernel_rfl) rfl (fun v hv => by simp only [List.mem_cons, List.not_mem_nil, or_false] at hv; rcases hv with rfl | rfl <;> rfl) ?_; intro w9 hZ9 hs9)
    try simp only [Exit.inBlock, Exit.then]
    exact post_tct (cs := [.string ⟨#[]⟩, .int .i64 0]) rfl rfl hZ9 Try.underlying104 rfl (by kernel_rfl) rfl rfl rfl ⟨rfl, hs1.trans hs9 (fun j hj e => by have := HRB.out; omega)⟩
  | cons x r =>
    have hx := hno x rfl
    have hn0 : 0 < n := by rw [← hlen]; simp
    have hgt : x.tm > now := hx
    obtain ⟨g, o, rfl⟩ := RSeg.isSome h (by omega) (by omega)
    have HH := Lib.hid h
    obtain ⟨xk, xt⟩ := x
    clear hno h hlen hx
    have hne : (n == 0) = false := by simp; omega
    simp only at hgt
    go_enter Try.func62, Try.ntmps62
    go_upto_region 1 with (fail)
    refine alloc_next (cs := [.string ⟨#[]⟩, .int .i64 0]) ?_
    intro w1 hR hs1
    have a1 : w1.cell? ⟨g, o + 1, none⟩ = some (.int .i64 xt) := RSeg.cell (HH.out.same hs1) rfl
    obtain ⟨rb, hrb⟩ : ∃ rb, w.heap.size = rb := ⟨_, rfl⟩
    rw [hrb] at hR ⊢
    have HRB := Lib.hid hrb
    clear hrb
    go_wp2_with (refine wpList_store_blk rfl 104 (.tmp 5) (.tmp 19) rfl hR rfl (vs := [.string ⟨#[]⟩, .int .i64 0]) rfl (by kernel_rfl) rfl (fun v hv => by simp only [List.mem_cons, List.not_mem_nil, or_false] at hv; rcases hv with rfl | rfl <;> rfl) ?_; intro w9 hZ9 hs9)
    try simp only [Exit.inBlock, Exit.then]
    exact post_tct (cs := [.string ⟨#[]⟩, .int .i64 0]) rfl rfl hZ9 Try.underlying104 rfl (by kernel_rfl) rfl rfl rfl ⟨rfl, hs1.trans hs9 (fun j hj e => by have := HRB.out; omega)⟩
set_option maxRecDepth 100000 in
set_option maxHeartbeats 1000000 in
theorem pop_some {w : World} {A : Option Addr} {n c : Nat} {x : It} {r : List It} (h : IRd w A n (x :: r)) (hn : n ≤ 100000) (hnc : n ≤ c) (now : Int) (hx : ¬ now < x.tm) :
    Calls Try.prog 62 #[.slice A n c, .int .i64 now] w fun e w' => ∃ A', e = .returned (.tuple #[.slice A' (n - 1) (c - 1), .agg #[.string x.key, .int .i64 x.tm], .bool true]) ∧ IRd w' A' (n - 1) r ∧ blockOf A' = blockOf A ∧ Step (fun _ => False) w w' := by
  have hlen := h.len
  have hn0 : 0 < n := by rw [← hlen]; simp
  have hgt : ¬ (x.tm > now) := by omega
  obtain ⟨A', hsl, hA0', hbl⟩ := rseg_drop (c := c) (m := 1) (P := Try.prog) (t := 58) (by kernel_rfl) (fun wx => by kernel_rfl) h hnc hn0
  have hA' : IRd w A' (n - 1) r := by
    unfold IRd
    rw [show itcs r = (itcs (x :: r)).drop (1 * 2) from rfl]
    exact hA0'
  have HA' := Lib.hid hA'
  have HBL := Lib.hid hbl
  obtain ⟨g, o, rfl⟩ := RSeg.isSome h (by omega) (by omega)
  have HH := Lib.hid h
  obtain ⟨xk, xt⟩ := x
  have hsl1 : ∀ wx, (Instr.slice 58 (.slice (some ⟨g, o, none⟩) n c) (some (.int .i64 1)) none none).run Try.prog wx = .ok (.slice A' (n - 1) (c - 1)) wx := hsl
  clear h hlen hx hA' hA0' hbl hsl
  have hne : (n == 0) = false := by simp; omega
  have hn1 : 0 < (n : Int) := by omega
  simp only at hgt
  go_enter Try.func62, Try.ntmps62
  go_upto_region 1 with (fail)
  refine alloc_next (cs := [.string ⟨#[]⟩, .int .i64 0]) ?_
  intro w1 hR hs1
  have a0 : w1.cell? ⟨g, o, none⟩ = some (.string xk) := RSeg.cell (j := 0) (HH.out.same hs1) rfl
  have a1 : w1.cell? ⟨g, o + 1, none⟩ = some (.int .i64 xt) := RSeg.cell (HH.out.same hs1) rfl
  obtain ⟨rb, hrb⟩ : ∃ rb, w.heap.size = rb := ⟨_, rfl⟩
  rw [hrb] at hR ⊢
  have HRB := Lib.hid hrb
  clear hrb
  go_upto_region 3 with (fail)
  have f0 := hR.free 0
  have f1 := hR.free 1
  have z0 := hR.cell (i := 0) rfl
  have z1 := hR.cell (i := 1) rfl
  go_region
  all_goals
    go_wp2
    have hR2 := (hR.set 0 (.string xk)).set 1 (.int .i64 xt)
    have hst : Step (fun _ => False) w ((w1.setCell ⟨rb, 0, none⟩ (.string xk)).setCell ⟨rb, 1, none⟩ (.int .i64 xt)) := hs1.trans ((step_put w1 rb 0 _).same (step_put _ rb 1 _)) (fun j hj e => by have := HRB.out; omega)
    have hra : IRd ((w1.setCell ⟨rb, 0, none⟩ (.string xk)).setCell ⟨rb, 1, none⟩ (.int .i64 xt)) A' (n - 1) r := HA'.out.same hst
    exact post_tct (cs := [.string xk, .int .i64 xt]) rfl rfl (hR2.drew) Try.underlying104 rfl (by kernel_rfl) rfl rfl rfl ⟨A', rfl, hra.same (Step.refl _ _).drew, HBL.out, hst.drew⟩
end Go.Proofs.Ytghiklaeenhljaa.It
