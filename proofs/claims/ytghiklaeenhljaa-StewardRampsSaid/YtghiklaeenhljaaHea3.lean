/- health: result. Own work of this seat. -/
import Derived.Test.YtghiklaeenhljaaHea2
namespace Go.Proofs.Ytghiklaeenhljaa.Hea
open Go.RowKit Go.Proofs.Ytghiklaeenhljaa.Kit Go.Proofs.Ytghiklaeenhljaa.PStewardRamps Go.Proofs.YtghiklaeenhljaaW.PrintWords Go.Proofs.Ytghiklaeenhljaa.AgP Go.Proofs.Ytghiklaeenhljaa
set_option linter.unusedVariables false
set_option linter.unusedSimpArgs false

/-- An event. -/
structure Evn where
  kind : Int
  name : ByteArray
  tm : Int
def evc (e : Evn) : List Value := [.int .i64 e.kind, .string e.name, .int .i64 e.tm]
def evcs (l : List Evn) : List Value := l.flatMap evc
/-- A row of events. -/
def ESeg (w : World) (A : Option Addr) (n c : Nat) (l : List Evn) : Prop := FSeg w 33 3 A n c (evcs l)
theorem evcs_append (l r : List Evn) : evcs (l ++ r) = evcs l ++ evcs r := by simp [evcs]
theorem evcs_length (l : List Evn) : (evcs l).length = l.length * 3 := by
  induction l with
  | nil => rfl
  | cons x r ih => simp only [evcs, evc, List.flatMap_cons, List.length_append, List.length_cons, List.length_nil] at ih ⊢; omega
theorem evcs_one (l : List Evn) : ∀ v ∈ evcs l, v.oneCell' = true := by
  intro v hv
  obtain ⟨e, _, he⟩ := List.mem_flatMap.1 hv
  simp only [evc, List.mem_cons, List.not_mem_nil, or_false] at he
  rcases he with rfl | rfl | rfl <;> rfl
theorem ESeg.len {w : World} {A : Option Addr} {n c : Nat} {l : List Evn} (h : ESeg w A n c l) : l.length = n := by have := h.1; rw [evcs_length] at this; omega
theorem ESeg.keep {w w' : World} {A : Option Addr} {n c : Nat} {l : List Evn} {F : Nat → Prop} (h : ESeg w A n c l) (hs : Step F w w') (hF : ∀ j, blockOf A = some j → ¬ F j) : ESeg w' A n c l := FSeg.keep h hs hF
theorem eseg_nil (w : World) : ESeg w none 0 0 [] := fseg_nil _ _ _
theorem eseg_one {w : World} {b : Nat} {e : Evn} (h : Blk w b 33 (evc e)) : ESeg w (some ⟨b, 0, none⟩) 1 1 [e] :=
  ⟨rfl, .inr ⟨b, (evc e).toArray, rfl, h, Nat.le_refl _, by simp [evc], fun j v hj => by simpa [evcs] using hj⟩⟩

theorem hide_blk {P : Program} {c : Code} {Q : Exit → Act → World → Prop} {a : Act} {W w2 : World} {b : Nat} {T : TypeId} {cs : List Value} (hB : Blk W b T cs) (hS : Step (· = b) w2 W) (k : ∀ W', Blk W' b T cs → Step (· = b) w2 W' → Code.wp P c Q a W') : Code.wp P c Q a W := k W hB hS

theorem resP_ok {p : Pb} {c : Cf} (hp : PbOk p) (hc : CfOk c) (good : Bool) (now : Int) : PbOk (resP p c good now).1 := by
  obtain ⟨up, g, b, s⟩ := p
  unfold PbOk at hp ⊢
  obtain ⟨_, _, h3, h4⟩ := hc
  simp only at hp
  unfold resP
  cases good <;> cases up <;> simp only
  · omega
  · split <;> simp only <;> omega
  · split <;> simp only <;> omega
  · omega
theorem HeX.put {w w' : World} {p a M : Nat} {FA : Nat → Prop} {c : Cf} {q : ByteArray → Option Ho} {L : List (Ev ByteArray)} {t n m n' m' : Nat} {ep : Int} {f : Lit → Option Value} {s : ByteArray} {y : Ho}
    (h : HeX w p a M FA c q L t n m ep f) (hs : Step (· = M) w w') (hm : MG Try.prog 9 w' M n' m' (putF f (slit s) (encH y))) (hy : PbOk y.pb) : HeX w' p a M FA c (setQ q s (some y)) L t n' m' ep (putF f (slit s) (encH y)) := by
  refine ⟨h.blk.keep hs h.ne.2.2, h.ag.keep hs (fun k hk e => h.ne.2.1 (e ▸ hk)), hm, fun r => ?_, h.ne, fun r x hr => ?_, h.cok⟩
  · unfold putF setQ
    by_cases e : r = s
    · rw [e, if_pos (sameKey_self (slit_ok _)), if_pos rfl]; rfl
    · have ek : slit r ≠ slit s := fun e' => e (slit_inj e')
      rw [if_neg (by rw [Go.Maps.sameKey_ne ek]; simp), if_neg e]
      exact h.fn r
  · unfold setQ at hr
    by_cases e : r = s
    · rw [if_pos e] at hr
      obtain rfl := Option.some.inj hr
      exact hy
    · rw [if_neg e] at hr
      exact h.ok r x hr
theorem HeX.eph {w w' : World} {p a M : Nat} {FA : Nat → Prop} {c : Cf} {q : ByteArray → Option Ho} {L : List (Ev ByteArray)} {t n m : Nat} {ep ep' : Int} {f : Lit → Option Value} (h : HeX w p a M FA c q L t n m ep f) (hs : Step (· = p) w w')
    (hb : Blk w' p 73 [.int .i64 c.every, .int .i64 c.wait, .int .i64 c.rise, .int .i64 c.fall, .map (some M), .pointer (some ⟨a, 0, none⟩), .int .i64 ep']) : HeX w' p a M FA c q L t n m ep' f :=
  ⟨hb, h.ag.keep hs (fun k hk e => h.ne.1 (e ▸ hk)), h.mg.keep hs (fun e => h.ne.2.2 e.symm), h.fn, h.ne, h.ok, h.cok⟩

/-- What is told of a result. -/
def resE (r : Pb × Bool) (s : ByteArray) (at_ : Int) : List Evn := if r.2 then [⟨if r.1.up then 3 else 4, s, at_⟩] else []

set_option maxRecDepth 100000 in
set_option maxHeartbeats 4000000 in
theorem result2_calls {w : World} {p : Nat} {F : Nat → Prop} {c : Cf} {q : ByteArray → Option Ho} {L : List (Ev ByteArray)} {t u : Nat} {ep : Int} (h : HeR w p F c q L t u ep) (hu : u ≤ 79000) (hep : 0 ≤ ep ∧ ep ≤ 1000000000) {s : ByteArray} (hs : s.size ≤ 1000) (good : Bool) {at_ : Int} (h0 : 0 ≤ at_ ∧ at_ ≤ 1099511627776) {x : Ho} (hx0 : (q s).getD zHo = x) (hpk : PbOk x.pb) :
    Calls Try.prog 34 #[.pointer (some ⟨p, 0, none⟩), .string s, .bool good, .int .i64 at_] w fun e w' => ∃ F' A cA, e = .returned (.slice A (resE (resP x.pb c good at_) s at_).length cA) ∧ ESeg w' A (resE (resP x.pb c good at_) s at_).length cA (resE (resP x.pb c good at_) s at_) ∧ (∀ k, blockOf A = some k → w.heap.size ≤ k ∧ ¬ F' k) ∧
      HeR w' p F' c (setQ q s (some ⟨(resP x.pb c good at_).1, false⟩)) (timL L t s (at_ + c.every)).1 (timL L t s (at_ + c.every)).2 (u + 2) (if (resP x.pb c good at_).2 then ep + 1 else ep) ∧ Step F w w' ∧ ∀ k, F' k → F k ∨ w.heap.size ≤ k := by
  obtain ⟨g1, a, M, FA, n, m, f, hx, hnu, hF⟩ := h
  have c4 := hx.blk.cell (i := 4) rfl
  have hl := hx.look hs
  rw [hx0] at hl
  unfold encH at hl
  have HRES := Lib.hid (fun w1 => result_calls hx.cok hpk good at_ w1)
  have HX := Lib.hid hx
  have HF := Lib.hid (⟨g1, hF⟩ : (∀ k, F k → k < w.heap.size) ∧ ∀ k, (k = p ∨ k = M ∨ FA k) → F k)
  have hp := hx.blk.lt
  have hM := hx.mg.lt
  have hFA : ∀ k, FA k → k < w.heap.size := fun k hk => hx.ag.lt hk
  have HX0 := Lib.hid hx0
  obtain ⟨r, hr⟩ : ∃ r, resP x.pb c good at_ = r := ⟨_, rfl⟩
  rw [hr] at HRES ⊢
  have HR := Lib.hid hr
  clear hx hF hx0 hr
  obtain ⟨⟨x0, x1, x2, x3⟩, x4⟩ := x
  obtain ⟨⟨r0, r1, r2, r3⟩, is⟩ := r
  simp only at HRES hl
  go_enter Try.func34, Try.ntmps34
  go_upto_region 3 with (fail)
  refine alloc_next (cs := [.bool x0, .int .i64 x1, .int .i64 x2, .int .i64 x3, .bool x4]) ?_
  intro w1 hO hs1
  generalize hxb : w.heap.size = xb at *
  have HXB := Lib.hid hxb
  clear hxb hl
  have hx1 := HX.out.keep hs1 (fun _ _ h => h)
  have d0 := hx1.blk.cell (i := 0) rfl
  have d1 := hx1.blk.cell (i := 1) rfl
  have d2 := hx1.blk.cell (i := 2) rfl
  have d3 := hx1.blk.cell (i := 3) rfl
  have o0 := hO.cell (i := 0) rfl
  have o1 := hO.cell (i := 1) rfl
  have o2 := hO.cell (i := 2) rfl
  have o3 := hO.cell (i := 3) rfl
  have HX1 := Lib.hid hx1
  have HOO := Lib.hid (fun w2 (hs2 : Step (fun _ => False) w1 w2) => (⟨(hO.keep hs2 (fun h => h)).cell (i := 0) rfl, (hO.keep hs2 (fun h => h)).cell (i := 1) rfl, (hO.keep hs2 (fun h => h)).cell (i := 2) rfl, (hO.keep hs2 (fun h => h)).cell (i := 3) rfl, (hO.keep hs2 (fun h => h)).free 0, (hO.keep hs2 (fun h => h)).free 1, (hO.keep hs2 (fun h => h)).free 2, (hO.keep hs2 (fun h => h)).free 3⟩ : w2.cell? ⟨xb, 0, none⟩ = some (.bool x0) ∧ w2.cell? ⟨xb, 1, none⟩ = some (.int .i64 x1) ∧ w2.cell? ⟨xb, 2, none⟩ = some (.int .i64 x2) ∧ w2.cell? ⟨xb, 3, none⟩ = some (.int .i64 x3) ∧ w2.frozen? ⟨xb, 0, none⟩ = false ∧ w2.frozen? ⟨xb, 1, none⟩ = false ∧ w2.frozen? ⟨xb, 2, none⟩ = false ∧ w2.frozen? ⟨xb, 3, none⟩ = false))
  have hdr := (Step.refl (fun _ => False) w1).drew
  clear hx1
  go_region_with (go_at_call 52; refine (HRES.out _).mono ?_; rintro e w2 ⟨rfl, hs2⟩; have hs12 : Step (fun _ => False) w1 w2 := (by first | exact hdr.same hs2 | exact hs2); obtain ⟨y0, y1, y2, y3, z0, z1, z2, z3⟩ := HOO.out _ hs12)
  all_goals
    go_upto_region 4 with (fail)
    have hO2 := hO.keep hs12 (fun h => h)
    have hS4 : ∀ v0 v1 v2 v3, Step (· = xb) w2 ((((w2.setCell ⟨xb, 0, none⟩ v0).setCell ⟨xb, 1, none⟩ v1).setCell ⟨xb, 2, none⟩ v2).setCell ⟨xb, 3, none⟩ v3) := fun v0 v1 v2 v3 => (((step_put w2 xb 0 v0).same (step_put _ xb 1 v1)).same (step_put _ xb 2 v2)).same (step_put _ xb 3 v3)
    refine hide_blk (w2 := w2) (b := xb) (T := 77) (cs := [.bool r0, .int .i64 r1, .int .i64 r2, .int .i64 r3, .bool x4]) ((((hO2.set 0 (.bool r0)).set 1 (.int .i64 r1)).set 2 (.int .i64 r2)).set 3 (.int .i64 r3)) (by first | exact hS4 _ _ _ _ | exact (hS4 _ _ _ _).drew) ?_
    intro w3 hO3 hs3
    clear y0 y1 y2 y3 z0 z1 z2 z3 o0 o1 o2 o3 d0 d1 d2 d3 hS4 hO2
    have o4 := hO3.cell (i := 4) rfl
    have f4 := hO3.free 4
    have hs13 : Step (fun k => k = xb) w1 w3 := (hs12.mono (fun _ _ h => h.elim)).same hs3
    go_upto_region 5 with (fail)
    refine put_plain hO3 ?_
    intro w4 hO4 hs4
    have hs14 : Step (fun k => k = xb) w1 w4 := hs13.same hs4
    have hx4 := HX1.out.keep hs14 (fun k hk e => by
      rcases hk with h | h | h
      · omega
      · omega
      · have := hFA k h; omega)
    clear o4 f4
    have d4 := hx4.blk.cell (i := 4) rfl
    have o0 := hO4.cell (i := 0) rfl
    have o1 := hO4.cell (i := 1) rfl
    have o2 := hO4.cell (i := 2) rfl
    have o3 := hO4.cell (i := 3) rfl
    have o4 := hO4.cell (i := 4) rfl
    have HX4 := Lib.hid hx4
    clear hx4
    go_still_tail 6, (by kernel_rfl)
    have hdr4 : Step (fun _ => False) w4 w4.drew := (Step.refl _ _).drew
    have HMG := Lib.hid (HX4.out.mg.keep hdr4 (fun h => h))
    have hpr : PbOk ⟨r0, r1, r2, r3⟩ := by have := resP_ok hpk HX4.out.cok good at_; rwa [HR.out] at this
    have hcok := HX4.out.cok
    go_upto_region 6 with (refine wpList_mg_put rfl (.tmp 35) (.tmp 36) (.tmp 37) 69 rfl HMG.out msk Try.underlying69 (by omega) (val := encH ⟨⟨r0, r1, r2, r3⟩, false⟩) (slit_ok s) (mskey hs) rfl rfl rfl ?_; intro w5 hM5 hs5)
    have hx5 := (HX4.out.keep hdr4 (fun _ _ h => h)).put hs5 hM5 hpr
    have hsz14 := hs14.size
    have hsz5 := hs5.size
    have hs45 : Step (· = M) w4 w5 := (hdr4.mono (fun _ _ h => h.elim)).same hs5
    have hO5 := hO4.keep hs45 (fun e => by omega)
    have hI5 : HeR w5 p F c (setQ q s (some ⟨⟨r0, r1, r2, r3⟩, false⟩)) L t (u + 1) ep :=
      ⟨fun k hk => by have := HF.out.1 k hk; have := hs1.size; have := hs45.size; have := HXB.out; omega, a, M, FA, _, _, _, hx5, by omega, HF.out.2⟩
    have d0 := hx5.blk.cell (i := 0) rfl
    have HSE := Lib.hid (set_calls hI5 (by omega) hs h0 hcok.1)
    have hst5 : Step F w w5 := (hs1.mono (fun _ _ h => h.elim)).trans ((hs14.mono (fun k _ e => (.inl e : k = xb ∨ k = M))).same (hs45.mono (fun k _ e => .inr e))) (fun j hj h => by
      rcases h with h | h
      · have := HXB.out; omega
      · exact h ▸ HF.out.2 M (.inr (.inl rfl)))
    clear hM5 hx5 hI5 d4 o0 o1 o2 o3 o4 hs5
    go_upto_region 7 with (go_at_call 30; refine HSE.out.mono ?_; rintro e w6 ⟨rfl, F6, hI6, hs6, hn6⟩)
    have hO6 := hO5.keep hs6 (fun h => by have := HF.out.1 xb h; have := HXB.out; omega)
    have hst6 : Step F w w6 := hst5.same hs6
    have hsz6 := hst5.size
    have hn6w : ∀ k, F6 k → F k ∨ w.heap.size ≤ k := fun k hk => (hn6 k hk).imp id (fun h => by omega)
    clear HSE d0 hn6
    cases is with
    | false =>
      go_wp2
      go_ret
      unfold resE
      simp only [Bool.false_eq_true, if_false]
      exact ⟨F6, none, 0, rfl, eseg_nil _, fun k hk => (by cases hk), hI6, hst6, hn6w⟩
    | true =>
      obtain ⟨e1, a2, M2, FA2, n2, m2, f2, hx6, hnu2, hF6⟩ := hI6
      have d6 := hx6.blk.cell (i := 6) rfl
      have g6 := hx6.blk.free 6
      have HX6 := Lib.hid hx6
      clear hx6
      go_upto_region 10 with (fail)
      refine put_plain HX6.out.blk ?_
      intro w7 hB7 hs7
      have hx7 := HX6.out.eph hs7 hB7
      have hp6 := e1 p (hF6 p (.inl rfl))
      have hO7 := hO6.keep hs7 (fun e => by omega)
      have hsz7 := hs7.size
      have hI7 : HeR w7 p F6 c (setQ q s (some ⟨⟨r0, r1, r2, r3⟩, false⟩)) _ _ (u + 2) (ep + 1) := ⟨fun k hk => by have := e1 k hk; omega, a2, M2, FA2, n2, m2, f2, hx7, by omega, hF6⟩
      have hst7 : Step F w w7 := hst6.same (hs7.mono (fun k _ e => by
        have : k = p := e
        rw [this]
        exact HF.out.2 p (.inl rfl)))
      have o0 := hO7.cell (i := 0) rfl
      have HI7 := Lib.hid hI7
      have hF6l := e1
      clear d6 g6 hx7 hB7 hI7 hO6 hO5 hO4 hO3 hO
      cases r0
      all_goals
        go_wp2
        go_ret
        unfold resE
        simp only [Bool.false_eq_true, if_false, if_true]
        refine ⟨F6, some ⟨w7.heap.size, 0, none⟩, 1, rfl, eseg_one (blk_new w7 (evc ⟨_, s, at_⟩) 33), fun k hk => ?_, HI7.out.same ((Step.refl _ _).alloc _), hst7.then_below ((Below.refl _ _).alloc (Nat.le_refl _) _), hn6w⟩
        obtain rfl : w7.heap.size = k := Option.some.inj hk
        have := hst7.size
        exact ⟨this, fun h => by have := hF6l _ h; omega⟩
end Go.Proofs.Ytghiklaeenhljaa.Hea
