/- health: turn. Own work of this seat. -/
import Derived.Test.YtghiklaeenhljaaHea3
namespace Go.Proofs.Ytghiklaeenhljaa.Hea
open Go.RowKit Go.Proofs.Ytghiklaeenhljaa.Kit Go.Proofs.Ytghiklaeenhljaa.PStewardRamps Go.Proofs.YtghiklaeenhljaaW.PrintWords Go.Proofs.Ytghiklaeenhljaa.AgP Go.Proofs.Ytghiklaeenhljaa
set_option linter.unusedVariables false
set_option linter.unusedSimpArgs false

theorem i0ev : ∃ i, Try.prog.info? 33 = some i ∧ i.zero = some (.agg #[.int .i64 0, .string ⟨#[]⟩, .int .i64 0]) ∧ i.size = 3 ∧ i.bytes = 32 := by
  obtain ⟨i, hi, hp⟩ := Option.map_eq_some_iff.1 (by kernel_rfl : (Try.prog.info? 33).map (fun i => (i.zero, i.size, i.bytes)) = some (some (.agg #[.int .i64 0, .string ⟨#[]⟩, .int .i64 0]), 3, 32))
  simp only [Prod.mk.injEq] at hp
  exact ⟨i, hi, hp⟩
theorem ESeg.lt {w : World} {A : Option Addr} {n c : Nat} {l : List Evn} (h : ESeg w A n c l) {j : Nat} (hj : blockOf A = some j) : j < w.heap.size := FSeg.lt h hj
/-- Events behind events. -/
theorem run_app_e {w : World} {A B : Option Addr} {n c m cB : Nat} {l r : List Evn} (h : ESeg w A n c l) (k : ESeg w B m cB r) (hne : A ≠ none ∨ r ≠ []) (hb : n + m ≤ 1000000) :
    ∃ A' c' w', (Builtin.append_ #[30, 30] 30 #[.slice A n c, .slice B m cB]).run Try.prog w = .ok (.slice A' (n + m) c') w' ∧ ESeg w' A' (n + m) c' (l ++ r) ∧ Step (fun k => blockOf A = some k) w w' ∧ (blockOf A' = blockOf A ∨ ∃ k, blockOf A' = some k ∧ w.heap.size ≤ k) := by
  obtain ⟨i0, hi0, hz0, hs0, hy0⟩ := i0ev
  have hml := k.len
  obtain ⟨hl, ⟨rfl, rfl, rfl, h0⟩ | ⟨g, cur, rfl, hg, hle, hsz, hcell⟩⟩ := k
  · obtain rfl : r = [] := List.eq_nil_of_length_eq_zero hml
    have hA : A ≠ none := hne.elim id (fun h => absurd rfl h)
    obtain ⟨_, ⟨rfl, _⟩ | ⟨g, cur, rfl, _, hle, _⟩⟩ := id h
    · exact absurd rfl hA
    refine ⟨_, c, w, ?_, by rw [List.append_nil, Nat.add_zero]; exact h, Step.refl _ _, .inl rfl⟩
    have hf : (Builtin.firstCells 3 0 (.slice none 0 0)).run Try.prog w = .ok #[] w := by simp [Builtin.firstCells]
    have hst : (storeCells ((⟨g, 0, none⟩ : Addr).add (n * 3)) []).run Try.prog w = .ok () w := by simp [storeCells]
    simp [Builtin.append_, run_underlying Try.underlying30, sizeOf, typeInfo, hi0, hs0, Builtin.lenOf, hle, hf, hst]
  · have hm0 : A = none → 0 < m := fun e => by
      rcases hne with h | h
      · exact absurd e h
      · have := List.length_pos_iff.2 h; omega
    obtain ⟨A', c', w', h1, h2, h3, h4⟩ := run_append_flat (P := Try.prog) (cB := cB) w 30 30 33 i0 _ 3 32 Try.underlying30 hi0 hz0 rfl hs0 hy0 (by omega) h (m := m) (r := evcs r) (aB := ⟨g, 0, none⟩) hl hm0 (evcs_one r) (fun j v hj => by rw [addr_add', Nat.zero_add]; simp [World.cell?, hg, hcell j v hj]) hb
    exact ⟨A', c', w', h1, by unfold ESeg; rw [evcs_append]; exact h2, h3, h4⟩
theorem wpList_app {P : Program} {ops : Array Oper} {rest : List Oper} {o : Oper} {a : Act} {w w' : World} {Q : Exit → Act → World → Prop} (hgd : o.guard = none) (s x : Operand) (t : TypeId)
    (ho : o.op = .call { callee := .builtin .append, args := #[s, x], argTypes := #[t, t] }) {vs vx v : Value} (hs : a.eval s = vs) (hx : a.eval x = vx) (hr : (Builtin.append_ #[t, t] o.type #[vs, vx]).run P w = .ok v w') (h : wpList P ops Q rest (a.put o.dst v) w') :
    wpList P ops Q (o :: rest) a w := by
  refine wpList_plain hgd fun K hK => ?_
  unfold Oper.wp execOp
  simp only [ho, resolve, invoke, builtin, Sem.run_bind, Sem.run_pure, Result.andThen_ok, List.map_toArray, List.map_cons, List.map_nil, hs, hx, hr]
  exact hK _ _ h

/-- What turn tells, and leaves. -/
def turE (x : Ho) (c : Cf) (s : ByteArray) (at_ : Int) : List Evn := if x.waits then ⟨2, s, at_⟩ :: resE (resP x.pb c false at_) s at_ else [⟨1, s, at_⟩]
def turQ (x : Ho) (c : Cf) (at_ : Int) : Ho := if x.waits then ⟨(resP x.pb c false at_).1, false⟩ else ⟨x.pb, true⟩
def turV (x : Ho) (c : Cf) (at_ : Int) : Int := if x.waits then at_ + c.every else at_ + c.wait
def turN (x : Ho) (c : Cf) (at_ ep : Int) : Int := if x.waits then (if (resP x.pb c false at_).2 then ep + 1 else ep) else ep

set_option maxRecDepth 100000 in
set_option maxHeartbeats 4000000 in
theorem turn_calls {w : World} {p : Nat} {F : Nat → Prop} {c : Cf} {q : ByteArray → Option Ho} {L : List (Ev ByteArray)} {t u : Nat} {ep : Int} (h : HeR w p F c q L t u ep) (hu : u ≤ 79000) (hep : 0 ≤ ep ∧ ep ≤ 1000000000) {s : ByteArray} (hs : s.size ≤ 1000) {at_ : Int} (h0 : 0 ≤ at_ ∧ at_ ≤ 1099511627776) {x : Ho} (hx0 : (q s).getD zHo = x) (hpk : PbOk x.pb) :
    Calls Try.prog 33 #[.pointer (some ⟨p, 0, none⟩), .string s, .int .i64 at_] w fun e w' => ∃ F' A cA, e = .returned (.slice A (turE x c s at_).length cA) ∧ ESeg w' A (turE x c s at_).length cA (turE x c s at_) ∧ (∀ k, blockOf A = some k → w.heap.size ≤ k ∧ ¬ F' k) ∧
      HeR w' p F' c (setQ q s (some (turQ x c at_))) (timL L t s (turV x c at_)).1 (timL L t s (turV x c at_)).2 (u + 2) (turN x c at_ ep) ∧ Step F w w' ∧ ∀ k, F' k → F k ∨ w.heap.size ≤ k := by
  obtain ⟨g1, a, M, FA, n, m, f, hx, hnu, hF⟩ := id h
  have c4 := hx.blk.cell (i := 4) rfl
  have hl := hx.look hs
  rw [hx0] at hl
  unfold encH at hl
  have HX := Lib.hid hx
  have HF := Lib.hid (⟨g1, hF⟩ : (∀ k, F k → k < w.heap.size) ∧ ∀ k, (k = p ∨ k = M ∨ FA k) → F k)
  have hp := hx.blk.lt
  have hM := hx.mg.lt
  have hFA : ∀ k, FA k → k < w.heap.size := fun k hk => hx.ag.lt hk
  have HH := Lib.hid h
  clear hx hF h g1
  cases hw : x.waits with
  | true =>
    have HRES := Lib.hid (fun w1 (hs1 : Step (fun _ => False) w w1) => result2_calls (HH.out.same hs1) hu hep hs false h0 hx0 hpk)
    obtain ⟨⟨x0, x1, x2, x3⟩, x4⟩ := x
    simp only at hw hl
    subst hw
    obtain ⟨rl, hrl⟩ : ∃ rl, resE (resP ⟨x0, x1, x2, x3⟩ c false at_) s at_ = rl := ⟨_, rfl⟩
    simp only at HRES
    rw [hrl] at HRES
    have hrl1 : rl.length ≤ 1 := by rw [← hrl]; unfold resE; split <;> simp
    have HRL := Lib.hid hrl
    clear hrl hx0
    go_enter Try.func33, Try.ntmps33
    go_upto_region 2 with (fail)
    refine alloc_next (cs := [.bool x0, .int .i64 x1, .int .i64 x2, .int .i64 x3, .bool true]) ?_
    intro w1 hO hs1
    have o4 := hO.cell (i := 4) rfl
    generalize hxb : w.heap.size = xb at *
    have HXB := Lib.hid hxb
    clear hxb hl
    have hal : Step (fun _ => False) w1 (w1.alloc (.cells #[.int .i64 2, .string s, .int .i64 at_] 33)) := (Step.refl _ _).alloc _
    have hE1 : ESeg (w1.alloc (.cells #[.int .i64 2, .string s, .int .i64 at_] 33)) (some ⟨w1.heap.size, 0, none⟩) 1 1 [⟨2, s, at_⟩] := eseg_one (blk_new w1 (evc ⟨2, s, at_⟩) 33)
    have hsz1 := hs1.size
    have HAPP := Lib.hid (fun w2 A2 c2 (hs2 : Step F (w1.alloc (.cells #[.int .i64 2, .string s, .int .i64 at_] 33)) w2) (hA2 : ESeg w2 A2 rl.length c2 rl) => run_app_e (hE1.keep hs2 (fun k hk h => by
      have e1 : w1.heap.size = k := Option.some.inj hk
      have := HF.out.1 k h
      have := HXB.out
      omega)) hA2 (.inl (by simp)) (by omega))
    have HE1 := Lib.hid hE1
    clear hE1
    go_wp2_with (first | (go_at_call 34; refine (HRES.out _ (hs1.same hal)).mono ?_; rintro e w2 ⟨F2, A2, c2, rfl, hA2, hf2, hI2, hs2, hn2⟩; obtain ⟨A3, c3, w3, hap, hA3, hs3, hn3⟩ := HAPP.out w2 A2 c2 hs2 hA2) | (at_builtin; refine wpList_app (by rfl) (.tmp 19) (.tmp 23) 30 (by rfl) (by rfl) (by rfl) hap ?_))
    go_ret
    have hz2 := hs2.size
    have hzal : (w1.alloc (.cells #[.int .i64 2, .string s, .int .i64 at_] 33)).heap.size = w1.heap.size + 1 := by show (w1.heap.push _).size = _; simp
    have hF2n : ∀ k, w1.heap.size = k → ¬ F2 k := fun k e h => by
      rcases hn2 k h with h | h
      · have := HF.out.1 k h; have := HXB.out; omega
      · omega
    have hs3' : Step (fun k => k = w1.heap.size) w2 w3 := hs3.mono (fun k _ e => (Option.some.inj e : w1.heap.size = k).symm)
    have hI3 := hI2.keep hs3' (fun k hk e => hF2n k e.symm hk)
    have eE : turE ⟨⟨x0, x1, x2, x3⟩, true⟩ c s at_ = ⟨2, s, at_⟩ :: rl := by unfold turE; rw [if_pos rfl]; rw [← HRL.out]
    rw [eE]
    refine ⟨F2, A3, c3, by rw [List.length_cons, Nat.add_comm rl.length 1]; rfl, by rw [List.length_cons, Nat.add_comm rl.length 1]; exact hA3, fun k hk => ?_, ?_, ?_, fun k hk => ?_⟩
    · rcases hn3 with e | ⟨j, e, hj⟩
      · have e1 : w1.heap.size = k := Option.some.inj (e.symm.trans hk)
        exact ⟨by have := HXB.out; omega, hF2n k e1⟩
      · rw [hk] at e
        obtain rfl := Option.some.inj e
        refine ⟨by have := HXB.out; omega, fun h => ?_⟩
        have := hI2.1 _ h
        omega
    · unfold turQ turV turN
      simp only [if_true]
      exact hI3
    · exact ((hs1.same hal).mono (fun _ _ h => h.elim)).same hs2 |>.trans hs3' (fun j hj e => by have := HXB.out; omega)
    · exact (hn2 k hk).imp id (fun h => by have := HXB.out; omega)
  | false =>
    obtain ⟨⟨x0, x1, x2, x3⟩, x4⟩ := x
    simp only at hw hl
    subst hw
    have eE : turE ⟨⟨x0, x1, x2, x3⟩, false⟩ c s at_ = [⟨1, s, at_⟩] := rfl
    have eQ : turQ ⟨⟨x0, x1, x2, x3⟩, false⟩ c at_ = ⟨⟨x0, x1, x2, x3⟩, true⟩ := rfl
    have eV : turV ⟨⟨x0, x1, x2, x3⟩, false⟩ c at_ = at_ + c.wait := rfl
    have eN : turN ⟨⟨x0, x1, x2, x3⟩, false⟩ c at_ ep = ep := rfl
    rw [eE, eQ, eV, eN]
    clear eE eQ eV eN hx0
    go_enter Try.func33, Try.ntmps33
    go_upto_region 2 with (fail)
    refine alloc_next (cs := [.bool x0, .int .i64 x1, .int .i64 x2, .int .i64 x3, .bool false]) ?_
    intro w1 hO hs1
    have o4 := hO.cell (i := 4) rfl
    have f4 := hO.free 4
    generalize hxb : w.heap.size = xb at *
    have HXB := Lib.hid hxb
    clear hxb hl
    have hsz1 := hs1.size
    go_upto_region 5 with (fail)
    refine put_plain hO ?_
    intro w4 hO4 hs4
    have hx1 := HX.out.keep hs1 (fun _ _ h => h)
    have hx4 := hx1.keep hs4 (fun k hk e => by
      have e1 : k = xb := e
      rcases hk with h | h | h
      · omega
      · omega
      · have := hFA k h; omega)
    clear o4 f4
    have d4 := hx4.blk.cell (i := 4) rfl
    have o0 := hO4.cell (i := 0) rfl
    have o1 := hO4.cell (i := 1) rfl
    have o2 := hO4.cell (i := 2) rfl
    have o3 := hO4.cell (i := 3) rfl
    have o4 := hO4.cell (i := 4) rfl
    have HX4 := Lib.hid hx4
    clear hx4 hx1
    go_still_tail 6, (by kernel_rfl)
    have hdr4 : Step (fun _ => False) w4 w4.drew := (Step.refl _ _).drew
    have HMG := Lib.hid (HX4.out.mg.keep hdr4 (fun h => h))
    have hcok := HX4.out.cok
    go_upto_region 6 with (refine wpList_mg_put rfl (.tmp 29) (.tmp 30) (.tmp 31) 69 rfl HMG.out msk Try.underlying69 (by omega) (val := encH ⟨⟨x0, x1, x2, x3⟩, true⟩) (slit_ok s) (mskey hs) rfl rfl rfl ?_; intro w5 hM5 hs5)
    have hx5 := (HX4.out.keep hdr4 (fun _ _ h => h)).put hs5 hM5 hpk
    have hsz4 := hs4.size
    have hs45 : Step (· = M) w4 w5 := (hdr4.mono (fun _ _ h => h.elim)).same hs5
    have hI5 : HeR w5 p F c (setQ q s (some ⟨⟨x0, x1, x2, x3⟩, true⟩)) L t (u + 1) ep :=
      ⟨fun k hk => by have := HF.out.1 k hk; have := hs1.size; have := hs45.size; have := HXB.out; omega, a, M, FA, _, _, _, hx5, by omega, HF.out.2⟩
    have d1 := hx5.blk.cell (i := 1) rfl
    have HSE := Lib.hid (set_calls hI5 (by omega) hs h0 hcok.2.1)
    have hst5 : Step F w w5 := (hs1.mono (fun _ _ h => h.elim)).trans ((hs4.mono (fun k _ e => (.inl e : k = xb ∨ k = M))).same (hs45.mono (fun k _ e => .inr e))) (fun j hj h => by
      rcases h with h | h
      · have := HXB.out; omega
      · exact h ▸ HF.out.2 M (.inr (.inl rfl)))
    clear hM5 hx5 hI5 d4 o0 o1 o2 o3 o4 hs5
    go_wp2_with (go_at_call 30; refine HSE.out.mono ?_; rintro e w6 ⟨rfl, F6, hI6, hs6, hn6⟩)
    go_ret
    have hst6 : Step F w w6 := hst5.same hs6
    have hsz6 := hst5.size
    have hsz7 := hst6.size
    refine ⟨F6, some ⟨w6.heap.size, 0, none⟩, 1, rfl, eseg_one (blk_new w6 (evc ⟨1, s, at_⟩) 33), fun k hk => ?_, hI6.same ((Step.refl _ _).alloc _), hst6.then_below ((Below.refl _ _).alloc (Nat.le_refl _) _), fun k hk => (hn6 k hk).imp id (fun h => by omega)⟩
    obtain rfl : w6.heap.size = k := Option.some.inj hk
    exact ⟨hsz7, fun h => by have := hI6.1 _ h; omega⟩
end Go.Proofs.Ytghiklaeenhljaa.Hea
