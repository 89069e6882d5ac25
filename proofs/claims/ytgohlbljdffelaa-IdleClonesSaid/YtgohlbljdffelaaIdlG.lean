/- idle: what the document's rows are of the connections; First, Clear, Expire. Own work of this seat. -/
import Derived.Test.YtgohlbljdffelaaRd4
import Derived.Test.YtgohlbljdffelaaAgWInt
namespace Go.Proofs.Ytgohlbljdffelaa.Idl
open Go.RowKit Go.Proofs.Ytgohlbljdffelaa.Kit Go.Proofs.Ytgohlbljdffelaa.AgP Go.Proofs.Ytgohlbljdffelaa.IntS Go.Proofs.Ytgohlbljdffelaa.Rd Go.Proofs.Ytgohlbljdffelaa
set_option linter.unusedVariables false
set_option linter.unusedSimpArgs false

def t3 (o : On) : O3 := ⟨o.nm, o.conn, o.tm⟩
def tl (l : List On) : List O3 := l.map t3
theorem tl_length (l : List On) : (tl l).length = l.length := List.length_map ..
theorem tl_drop (l : List On) (c : Int) : tl (dropC l c) = dropD (tl l) c := by
  unfold tl dropC dropD
  rw [List.filter_map]
  rfl
theorem tl_of (l : List On) (s : ByteArray) : ofD (tl l) s = stackOf l s := by
  unfold tl stackOf ofD
  rw [List.filter_map, List.map_map]
  rfl
theorem tl_append (l r : List On) : tl (l ++ r) = tl l ++ tl r := List.map_append
theorem tl_evict : ∀ (n : Nat) (most : Int) (s : ByteArray) (l : List On) (cl : List Int), evictD n most s (tl l) cl = (tl (evictN n most s l cl).1, (evictN n most s l cl).2)
  | 0, _, _, _, _ => rfl
  | n + 1, most, s, l, cl => by
    by_cases h : most < ((stackOf l s).length : Int)
    · cases he : stackOf l s with
      | nil =>
        have h1 : evictN (n + 1) most s l cl = (l, cl) := by
          show (if most < ((stackOf l s).length : Int) then (match stackOf l s with | [] => (l, cl) | e :: _ => evictN n most s (dropC l e) (cl ++ [e])) else (l, cl)) = _
          rw [if_pos h, he]
        have h2 : evictD (n + 1) most s (tl l) cl = (tl l, cl) := by
          show (if most < ((ofD (tl l) s).length : Int) then (match ofD (tl l) s with | [] => (tl l, cl) | e :: _ => evictD n most s (dropD (tl l) e) (cl ++ [e])) else (tl l, cl)) = _
          rw [tl_of, if_pos h, he]
        rw [h1, h2]
      | cons e r =>
        rw [evict_step h he, evictD_step (by rw [tl_of]; exact h) (by rw [tl_of]; exact he), ← tl_drop, tl_evict]
    · rw [evict_stop _ h, evictD_stop _ (by rw [tl_of]; exact h)]
theorem tl_put {most life : Int} (hl : 0 ≤ life) (l : List On) (s : ByteArray) (c now turn : Int) :
    putD most life (tl l) s c now = (tl (putL most l s c (AgInt.clipT (AgInt.clipT now + life)) turn).1, (putL most l s c (AgInt.clipT (AgInt.clipT now + life)) turn).2) := by
  have e : tm3 life now = AgInt.clipT (AgInt.clipT now + life) := by unfold tm3 clipI AgInt.clipT; omega
  have e2 : dropD (tl l) c ++ [(⟨s, c, tm3 life now⟩ : O3)] = tl (addO l s c (AgInt.clipT (AgInt.clipT now + life)) turn) := by
    unfold addO
    rw [tl_append, tl_drop, e]
    rfl
  unfold putD putL
  rw [e2, tl_length, tl_evict]
theorem tl_take (l : List On) (s : ByteArray) : takeD (tl l) s = (tl (takeL l s).1, (takeL l s).2.1, (takeL l s).2.2) := by
  unfold takeD takeL
  rw [tl_of]
  cases (stackOf l s).getLast? with
  | none => rfl
  | some c => simp only [tl_drop]
theorem own_drop_len (l : List On) (c : Int) : (ownF l c).isSome = decide ((dropD (tl l) c).length < l.length) := by
  rw [← tl_drop, tl_length]
  unfold ownF dropC
  induction l with
  | nil => rfl
  | cons o l ih =>
    have h1 := List.length_filter_le (fun o : On => decide (o.conn ≠ c)) l
    by_cases e : o.conn = c
    · rw [List.find?_cons, List.filter_cons]
      simp [e]
      have h2 := List.length_filter_le (fun o : On => !decide (o.conn = c)) l
      omega
    · rw [List.find?_cons, List.filter_cons]
      simp only [e, decide_false, ne_eq, not_false_eq_true, decide_true, if_true, List.length_cons]
      rw [ih]
      simp
def bstO (b o : On) : On := if o.tm < b.tm then o else b
def evO (o : On) : Ev Int := ⟨o.conn, o.tm, o.turn⟩
theorem t3_bst (b o : On) : t3 (bstO b o) = bstep (t3 b) (t3 o) := by
  unfold bstO bstep
  show t3 (if o.tm < b.tm then o else b) = if o.tm < b.tm then t3 o else t3 b
  split <;> rfl
theorem t3_fold : ∀ (r : List On) (b : On), t3 (r.foldl bstO b) = (tl r).foldl bstep (t3 b)
  | [], b => rfl
  | x :: r, b => by
    rw [List.foldl_cons, t3_fold r]
    unfold tl
    rw [List.map_cons, List.foldl_cons, t3_bst]
theorem fold_least : ∀ (r : List On) (b : On), (b :: r).Pairwise (fun x y => x.turn < y.turn) → r.foldl bstO b ∈ b :: r ∧ ∀ o ∈ b :: r, o = r.foldl bstO b ∨ ltE (evO (r.foldl bstO b)) (evO o)
  | [], b, _ => ⟨List.mem_cons_self .., fun o ho => .inl (by simpa using ho)⟩
  | x :: r, b, h => by
    rw [List.foldl_cons]
    rw [List.pairwise_cons] at h
    obtain ⟨h1, h2⟩ := h
    have hbx := h1 x (List.mem_cons_self ..)
    by_cases e : x.tm < b.tm
    · have e1 : bstO b x = x := by unfold bstO; rw [if_pos e]
      rw [e1]
      obtain ⟨g1, g2⟩ := fold_least r x h2
      refine ⟨List.mem_cons_of_mem _ g1, fun o ho => ?_⟩
      rcases List.mem_cons.1 ho with rfl | ho
      · right
        have hxb : ltE (evO x) (evO o) := .inl e
        rcases g2 x (List.mem_cons_self ..) with q | q
        · rw [← q]; exact hxb
        · exact ltE_tr q hxb
      · exact g2 o ho
    · have e1 : bstO b x = b := by unfold bstO; rw [if_neg e]
      rw [e1]
      have hp : (b :: r).Pairwise (fun x y => x.turn < y.turn) := by
        rw [List.pairwise_cons]
        exact ⟨fun y hy => h1 y (List.mem_cons_of_mem _ hy), (List.pairwise_cons.1 h2).2⟩
      obtain ⟨g1, g2⟩ := fold_least r b hp
      refine ⟨?_, fun o ho => ?_⟩
      · rcases List.mem_cons.1 g1 with q | q
        · rw [q]; exact List.mem_cons_self ..
        · exact List.mem_cons_of_mem _ (List.mem_cons_of_mem _ q)
      · rcases List.mem_cons.1 ho with rfl | ho
        · exact g2 o (List.mem_cons_self ..)
        · rcases List.mem_cons.1 ho with rfl | ho
          · right
            have hbo : ltE (evO b) (evO o) := by unfold ltE evO; simp only; omega
            rcases g2 b (List.mem_cons_self ..) with q | q
            · rw [← q]; exact hbo
            · exact ltE_tr q hbo
          · exact g2 o (List.mem_cons_of_mem _ ho)
/-- The agenda's first is the document's first. -/
theorem first_is {L : List (Ev Int)} {l : List On} (hs : Sorted L) (hp : L.Perm (evs l)) (hi : l.Pairwise (fun x y => x.turn < y.turn)) :
    (L = [] ∧ l = []) ∨ ∃ r o, o ∈ l ∧ t3 o = bestD (tl l) ∧ L = evO o :: r := by
  cases l with
  | nil =>
    left
    exact ⟨hp.eq_nil, rfl⟩
  | cons b l =>
    right
    obtain ⟨g1, g2⟩ := fold_least l b hi
    have ht : t3 (l.foldl bstO b) = bestD (tl (b :: l)) := t3_fold l b
    generalize l.foldl bstO b = m at *
    obtain ⟨l1, l2, e⟩ := List.append_of_mem g1
    have hq : (evO m :: evs (l1 ++ l2)).Perm L := by
      refine List.Perm.trans ?_ hp.symm
      rw [e]
      unfold evs
      rw [List.map_append, List.map_append, List.map_cons]
      exact (List.perm_middle (a := evO m)).symm
    obtain ⟨L', h1, _⟩ := head_least hs hq (fun x hx => by
      obtain ⟨o, ho, rfl⟩ := List.mem_map.1 (hp.mem_iff.1 hx)
      rcases g2 o ho with q | q
      · rw [q]
        show ¬ ltE (evO m) (evO m)
        unfold ltE
        omega
      · show ¬ ltE (evO o) (evO m)
        unfold ltE at *
        omega)
    exact ⟨L', m, g1, ht, h1⟩
theorem firstL_is {L : List (Ev Int)} {l : List On} (hs : Sorted L) (hp : L.Perm (evs l)) (hi : l.Pairwise (fun x y => x.turn < y.turn)) : AgInt.firstL L = ((bestD (tl l)).tm, decide (0 < l.length)) := by
  rcases first_is hs hp hi with ⟨rfl, rfl⟩ | ⟨r, o, ho, h1, rfl⟩
  · rfl
  · have : 0 < l.length := List.length_pos_of_mem ho
    rw [decide_eq_true this, ← h1]
    rfl

theorem first_calls {w : World} {p : Nat} {F : Nat → Prop} {most life : Int} {l : List On} {t : Nat} (h : IdR w p F most life l t) (ht : t ≤ 100000) :
    Calls Try.prog 55 #[.pointer (some ⟨p, 0, none⟩)] w fun e w' => e = .returned (.tuple #[.int .i64 (bestD (tl l)).tm, .bool (decide (0 < l.length))]) ∧ w = w' := by
  obtain ⟨h1, a, MS, MO, FA, L, ro, n1, n2, m2, fo, fs, hx, hF⟩ := h
  have c4 := hx.blk.cell (i := 4) rfl
  have hC := AgInt.first_calls hx.ag (by omega)
  rw [firstL_is hx.ag.sorted hx.pm hx.inc] at hC
  have HC := Lib.hid hC
  clear hC hx hF h1
  go_enter Try.func55, Try.ntmps55
  go_wp2_with (go_at_call 34; refine HC.out.mono ?_; rintro e w1 ⟨rfl, rfl⟩)
  go_ret2
  exact ⟨rfl, rfl⟩

set_option maxRecDepth 100000 in
set_option maxHeartbeats 2000000 in
theorem clear_calls {w : World} {p : Nat} {F : Nat → Prop} {most life : Int} {l : List On} {t : Nat} (h : IdR w p F most life l t) (ht : t ≤ 30000) {s : ByteArray} (hs : s.size ≤ 1000) :
    Calls Try.prog 52 #[.pointer (some ⟨p, 0, none⟩), .string s] w fun e w' => ∃ A c, e = .returned (.slice A (stackOf l s).length c) ∧ ISeg w' A (stackOf l s).length c (stackOf l s) ∧ (∀ k, blockOf A = some k → w.heap.size ≤ k) ∧ IdR w' p F most life ((stackOf l s).foldl dropC l) t ∧ Step F w w' := by
  have hll := h.len_le
  have hsl := stack_le l s
  have HO := Lib.hid (of_calls h (by omega) hs)
  have hok : ∀ c ∈ stackOf l s, AgInt.KOk c := fun c hc => by
    obtain ⟨o, ho, _, rfl⟩ := stack_mem.1 hc
    exact (h.ok o ho).2
  have hFl : ∀ k, F k → k < w.heap.size := h.1
  have HH := Lib.hid h
  generalize stackOf l s = q at *
  obtain ⟨n, hn⟩ : ∃ n, q.length = n := ⟨_, rfl⟩
  rw [hn] at HO hsl ⊢
  have HN := Lib.hid hn
  clear h hn
  go_enter Try.func52, Try.ntmps52
  go_upto_region 2 with (go_at_call 20; refine HO.out.mono ?_; rintro e w1 ⟨A, c, rfl, hA, hAf, hs1⟩)
  have hI1 := HH.out.same hs1
  have HA := Lib.hid hA
  have hcap := hA.le
  clear HO hA
  go_wp2
  go_loopw [7, 13] (fun v7 v13 wr => ∃ (i : Nat), v13 = .int .i64 (i : Int) ∧ i ≤ n ∧ IdR wr p F most life ((q.take i).foldl dropC l) t ∧ Step F w1 wr) (fun _ v _ => n - (intOf v).toNat)
  case atStart => exact ⟨0, rfl, Nat.zero_le _, hI1, Step.refl _ _⟩
  case round =>
    clear hI1
    obtain ⟨i, rfl, hi, hI, hst⟩ := hrel
    by_cases hin : i < n
    · have hin' : ((i : Int) < (n : Int)) := by omega
      have hAr := HA.out.keep hst (fun k hk hF => by have := hAf k hk; have := hFl k hF; omega)
      obtain ⟨g, rfl⟩ := hAr.one hin
      obtain ⟨x, hx⟩ : ∃ x, q[i]? = some x := ⟨_, List.getElem?_eq_getElem (by rw [HN.out]; exact hin)⟩
      have d0 := hAr.cell hx
      have HTK : Hid ((q.take (i + 1)).foldl dropC l = dropC ((q.take i).foldl dropC l) x) := Lib.hid (by rw [List.take_add_one, hx, List.foldl_append]; rfl)
      have HD := Lib.hid (drop_calls hI (by omega) (hok x (List.mem_of_getElem? hx)))
      clear hAr hx hI
      go_wp2_with (go_at_call 18; refine HD.out.mono ?_; rintro e1 w6 ⟨rfl, hI6, hs6⟩)
      go_roundw
      case rel => exact ⟨i + 1, by go_num, by omega, by rw [HTK.out]; exact hI6, hst.same hs6⟩
      case measure => simp [intOf]; omega
    · obtain rfl : i = n := by omega
      have hin' : ¬ ((i : Int) < (i : Int)) := by omega
      rw [List.take_of_length_le (by rw [HN.out]; exact Nat.le_refl _)] at hI
      have HI := Lib.hid hI
      clear hI
      go_wp2
      go_ret
      exact ⟨A, c, rfl, HA.out.keep hst (fun k hk hF => by have := hAf k hk; have := hFl k hF; omega), hAf, HI.out, (hs1.mono (fun _ _ h => h.elim)).same hst⟩

set_option maxRecDepth 100000 in
set_option maxHeartbeats 2000000 in
theorem expire_calls {w : World} {p : Nat} {F : Nat → Prop} {most life : Int} {l : List On} {t : Nat} (h : IdR w p F most life l t) (ht : t ≤ 30000) (now : Int) :
    Calls Try.prog 54 #[.pointer (some ⟨p, 0, none⟩), .int .i64 now] w fun e w' => ∃ A c l', e = .returned (.slice A (expD (tl l) now).2.length c) ∧ ISeg w' A (expD (tl l) now).2.length c (expD (tl l) now).2 ∧ (∀ k, blockOf A = some k → w.heap.size ≤ k) ∧ tl l' = (expD (tl l) now).1 ∧ IdR w' p F most life l' t ∧ Step F w w' := by
  obtain ⟨R, hR⟩ : ∃ R, expD (tl l) now = R := ⟨_, rfl⟩
  rw [hR]
  unfold expD at hR
  rw [tl_length] at hR
  have hll := h.len_le
  have HH := Lib.hid h
  have HR := Lib.hid hR
  have hFl : ∀ k, F k → k < w.heap.size := h.1
  clear h hR
  go_enter Try.func54, Try.ntmps54
  go_wp2
  go_loopw [5] (fun v5 wr => ∃ (f : Nat) (l' : List On) (cl : List Int) (O : Option Addr) (cO : Nat), v5 = .slice O cl.length cO ∧ l'.length ≤ f ∧ expN f now (tl l') cl = R ∧ ISeg wr O cl.length cO cl ∧ (∀ k, blockOf O = some k → w.heap.size ≤ k) ∧ IdR wr p F most life l' t ∧ l'.length + cl.length ≤ l.length ∧ Step F w wr) (fun v _ => l.length - Rd.slen v)
  case atStart => exact ⟨l.length, l, [], none, 0, rfl, Nat.le_refl _, HR.out, iseg_nil _, fun k hk => (by cases hk), HH.out, by simp, Step.refl _ _⟩
  case round =>
    obtain ⟨f, l', cl, O, cO, rfl, hlf, hev, hO, hOf, hI, hlN, hst⟩ := hrel
    obtain ⟨g1, a, MS, MO, FA, L, ro, n1, n2, m2, fo, fs, hx, hFx⟩ := id hI
    have c4 := hx.blk.cell (i := 4) rfl
    have hC := AgInt.first_calls hx.ag (by omega)
    have hfl := firstL_is hx.ag.sorted hx.pm hx.inc
    rw [hfl] at hC
    have hfi := first_is hx.ag.sorted hx.pm hx.inc
    have hK := AgInt.keys_calls hx.ag (by omega)
    obtain ⟨nl, hnl⟩ : ∃ nl, l'.length = nl := ⟨_, rfl⟩
    obtain ⟨b, hb⟩ : ∃ b, bestD (tl l') = b := ⟨_, rfl⟩
    have hLl : L.length = nl := by
      have e := hx.pm.length_eq
      unfold evs at e
      rw [List.length_map] at e
      omega
    rw [hb, hnl] at hC
    rw [hb] at hfi
    obtain ⟨bk, bc, bt⟩ := b
    simp only at hC
    rw [hLl] at hK
    have hndc := hx.ndc
    by_cases hgo : nl = 0 ∨ bt > now
    · have HFI := Lib.hid (by rw [← hev]; exact exp_stop _ (by rw [hb, tl_length, hnl]; exact hgo) : R = (tl l', cl))
      have hcase : (decide (0 < nl) = false) ∨ (decide (0 < nl) = true ∧ bt > now) := by
        by_cases h0 : nl = 0
        · exact .inl (by simp [h0])
        · exact .inr ⟨by simp; omega, hgo.resolve_left h0⟩
      have HO := Lib.hid hO
      have HI := Lib.hid hI
      clear hev hO hI hlf hnl hb hgo hx hFx g1 hfl hfi hK hLl hndc
      rcases hcase with hd | ⟨hd, hgt⟩
      all_goals
        rw [hd] at hC
        have HFC := Lib.hid hC
        clear hd hC
        go_wp2_with (go_at_call 34; refine HFC.out.mono ?_; rintro e2 w2 ⟨rfl, rfl⟩)
        go_ret
        rw [HFI.out]
        exact ⟨O, cO, l', rfl, HO.out, hOf, rfl, HI.out, hst⟩
    · have h0 : ¬ nl = 0 := fun e => hgo (.inl e)
      have hgt : ¬ bt > now := fun e => hgo (.inr e)
      have hd : decide (0 < nl) = true := by simp; omega
      rw [hd] at hC
      obtain ⟨r, o, ho, hbo, hLe⟩ := hfi.resolve_left (fun e => by rw [e.2] at hnl; simp at hnl; omega)
      have hoc : o.conn = bc := congrArg O3.conn hbo
      have hkok : AgInt.KOk bc := hoc ▸ (hI.ok o ho).2
      have hdl := dropC_length hndc ho
      rw [hoc, hnl] at hdl
      obtain ⟨f', rfl⟩ : ∃ f', f = f' + 1 := ⟨f - 1, by omega⟩
      have hev2 := hev
      rw [exp_step (n := f') (by rw [hb, tl_length, hnl]; exact hgo), hb] at hev2
      simp only at hev2
      rw [← tl_drop] at hev2
      have HEV2 := Lib.hid hev2
      have HFC := Lib.hid hC
      have HK := Lib.hid (hK.mono (R' := fun e w' => ∃ g cB, e = .returned (.slice (some ⟨g, 0, none⟩) nl cB) ∧ w'.cell? ⟨g, 0, none⟩ = some (.int .i64 bc) ∧ nl ≤ cB ∧ Step (fun _ => False) wr w') (fun e w' ⟨B, cB, he, hB, hBf, hs⟩ => by
        obtain ⟨g, rfl⟩ := FSeg.isSome hB (by omega)
        refine ⟨g, cB, he, ?_, FSeg.le hB, hs⟩
        refine FSeg.cell hB ?_
        rw [hLe, ← hoc]
        rfl))
      have HDR := Lib.hid (fun w2 (hs : Step (fun _ => False) wr w2) => drop_calls (hI.same hs) (by omega) hkok)
      have HO := Lib.hid hO
      have HLF := Lib.hid hlf
      have hn0 : 0 < nl := by omega
      have HNL := Lib.hid hnl
      have HDL := Lib.hid hdl
      clear hev hO hI hlf hnl hb hgo hx hFx g1 hfl hfi hK hLl hndc hd hC ho hbo hLe hoc hev2 hdl
      go_upto_region 5 with (go_at_call 34; refine HFC.out.mono ?_; rintro e2 w2 ⟨rfl, rfl⟩)
      go_upto_region 6 with (go_at_call 65; refine HK.out.mono ?_; rintro e3 w3 ⟨g3, c3, rfl, d0, hcap, hs3⟩)
      have HD3 := Lib.hid (HDR.out _ hs3)
      clear c4 d0 HDR HK HFC
      go_upto_region 7 with (go_at_call 18; refine HD3.out.mono ?_; rintro e1 w6 ⟨rfl, hI6, hs6⟩)
      have ha6 : Step (fun _ => False) w6 (w6.alloc (.cells #[.int .i64 bc] 3)) := (Step.refl _ _).alloc _
      have hO6 := (HO.out.keep hs3 (fun _ _ h => h)).keep hs6 (fun k hk hF => by have := hOf k hk; have := hFl k hF; omega)
      obtain ⟨O9, cO9, w9, hap, hO9, hs9', hA9⟩ := Idl.run_app1 (hO6.keep ha6 (fun _ _ h => h)) (blk_new w6 [.int .i64 bc] 3) (by omega)
      have hs69 : Step (fun k => blockOf O = some k) w6 w9 := (ha6.mono (fun _ _ h => h.elim)).same hs9'
      have hI9 := hI6.keep hs69 (fun k hk h => by have := hOf k h; have := hFl k hk; omega)
      have hz := hst.size
      have hz3 := hs3.size
      have hz6 := hs6.size
      have hza := ha6.size
      have hO9f : ∀ k, blockOf O9 = some k → w.heap.size ≤ k := fun k hk => by
        rcases hA9 with e' | ⟨j, e', hj⟩
        · exact hOf k (e' ▸ hk)
        · rw [hk] at e'
          obtain rfl := Option.some.inj e'
          omega
      have hcl1 : (cl ++ [bc]).length = cl.length + 1 := by simp
      have HO9 := Lib.hid hO9
      have HI9 := Lib.hid hI9
      have HS9 := Lib.hid (((hst.same (hs3.mono (fun _ _ h => h.elim))).same hs6).trans hs69 (fun j hj h => by have := hOf _ h; omega))
      clear hO9 hI9 hs9' hA9 hO6 hI6
      go_wp2_with (at_builtin; refine wpList_app1 (by rfl) (.tmp 35) (.tmp 37) 40 (by rfl) (by rfl) (by rfl) hap ?_)
      go_roundw
      case rel => exact ⟨f', dropC l' bc, cl ++ [bc], O9, cO9, by rw [hcl1], by have := HLF.out; have := HNL.out; have := HDL.out; omega, HEV2.out, by rw [hcl1]; exact HO9.out, hO9f, HI9.out, by rw [hcl1]; have := HNL.out; have := HDL.out; omega, HS9.out⟩
      case measure => simp only [Rd.slen]; have := HNL.out; omega
end Go.Proofs.Ytgohlbljdffelaa.Idl
