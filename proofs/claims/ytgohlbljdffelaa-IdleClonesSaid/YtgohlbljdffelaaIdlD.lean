/- idle: Put. Own work of this seat. -/
import Derived.Test.YtgohlbljdffelaaIdlC
namespace Go.Proofs.Ytgohlbljdffelaa.Idl
open Go.RowKit Go.Proofs.Ytgohlbljdffelaa.Kit Go.Proofs.Ytgohlbljdffelaa.AgP Go.Proofs.Ytgohlbljdffelaa.IntS Go.Proofs.Ytgohlbljdffelaa
set_option linter.unusedVariables false
set_option linter.unusedSimpArgs false

theorem own_dropped (l : List On) (c : Int) : ∀ o ∈ dropC l c, o.conn ≠ c := fun o ho => (mem_dropC.1 ho).2
theorem i0int : ∃ i, Try.prog.info? 3 = some i ∧ i.zero = some (.int .i64 0) ∧ i.size = 1 ∧ i.bytes = 8 := by
  obtain ⟨i, hi, hp⟩ := Option.map_eq_some_iff.1 (by kernel_rfl : (Try.prog.info? 3).map (fun i => (i.zero, i.size, i.bytes)) = some (some (.int .i64 0), 1, 8))
  simp only [Prod.mk.injEq] at hp
  exact ⟨i, hi, hp⟩
/-- One number behind a row of numbers. -/
theorem run_app1 {w : World} {A : Option Addr} {n c : Nat} {l : List Int} (h : ISeg w A n c l) {b : Nat} {x : Int} (hb : Blk w b 3 [.int .i64 x]) (hn : n ≤ 900000) :
    ∃ A' c' w', (Builtin.append_ #[40, 40] 40 #[.slice A n c, .slice (some ⟨b, 0, none⟩) 1 1]).run Try.prog w = .ok (.slice A' (n + 1) c') w' ∧ ISeg w' A' (n + 1) c' (l ++ [x]) ∧ Step (fun k => blockOf A = some k) w w' ∧ (blockOf A' = blockOf A ∨ ∃ k, blockOf A' = some k ∧ w.heap.size ≤ k) := by
  obtain ⟨i0, hi0, hz0, hs0, hy0⟩ := i0int
  obtain ⟨A', c', w', h1, h2, h3, h4⟩ := run_append_flat (P := Try.prog) (cB := 1) w 40 40 3 i0 _ 1 8 Try.underlying40 hi0 hz0 rfl hs0 hy0 (by omega) h (m := 1) (r := [.int .i64 x]) (aB := ⟨b, 0, none⟩) rfl (fun _ => by omega) (fun v hv => by obtain rfl := List.mem_singleton.1 hv; rfl) (fun j v hj => by rw [addr_add', Nat.zero_add]; exact hb.cell hj) (by omega)
  refine ⟨A', c', w', h1, ?_, h3, h4⟩
  unfold ISeg ic
  rw [List.map_append]
  exact h2
theorem nm_look {w : World} {MS n2 m2 : Nat} {fs : Lit → Option Value} {l : List On} {ro : ByteArray → Option Addr × Nat} (hm : MG Try.prog 9 w MS n2 m2 fs) (hf : Fs fs l ro) (hr : ∀ s, stackOf l s ≠ [] → ISeg w (ro s).1 (stackOf l s).length (ro s).2 (stackOf l s)) (s : ByteArray) (hs : s.size ≤ 1000) :
    ∃ A c, (∀ wx, Step (fun k => ¬ k = MS) w wx → (Instr.lookup 83 (.map (some MS)) (.string s) false).run Try.prog wx = .ok (.slice A (stackOf l s).length c) wx) ∧ ISeg w A (stackOf l s).length c (stackOf l s) ∧ ∀ k, blockOf A = some k → stackOf l s ≠ [] ∧ blockOf (ro s).1 = some k := by
  by_cases e : stackOf l s = []
  · refine ⟨none, 0, fun wx hst => ?_, by rw [e]; exact iseg_nil _, fun k hk => by cases hk⟩
    have := (hm.keep hst (fun h => h rfl)).look msk Try.underlying83 (zsl wx) (slit_ok s) (mskey hs)
    rw [hf s, if_pos e] at this
    rw [this, e]; rfl
  · refine ⟨_, _, fun wx hst => ?_, hr s e, fun k hk => ⟨e, hk⟩⟩
    have := (hm.keep hst (fun h => h rfl)).look msk Try.underlying83 (zsl wx) (slit_ok s) (mskey hs)
    rw [hf s, if_neg e] at this
    exact this

/-- append at a step of a region that draws its order, out of its run's equation. -/
theorem step_app {P : Program} {ops : Array Oper} {o : Oper} {a : Act} {w w' : World} {K : Act → World → Prop} {Q : Exit → Act → World → Prop} {E : Prop} (hgd : o.guard = none) (s x : Operand) (t : TypeId)
    (ho : o.op = .call { callee := .builtin .append, args := #[s, x], argTypes := #[t, t] }) {vs vx v : Value} (hs : a.eval s = vs) (hx : a.eval x = vx) (hr : (Builtin.append_ #[t, t] o.type #[vs, vx]).run P w = .ok v w') (h : K (a.put o.dst v) w') :
    if Region.wanted o (yielded ops a.tmps) = true then Oper.wp P o a w K Q else E := by
  have hw : Region.wanted o (yielded ops a.tmps) = true := by simp [Region.wanted, hgd]
  rw [if_pos hw]
  unfold Oper.wp execOp
  simp only [ho, resolve, invoke, builtin, Sem.run_bind, Sem.run_pure, Result.andThen_ok, List.map_toArray, List.map_cons, List.map_nil, hs, hx, hr]
  exact h

/-- append in a plain region, out of its run's equation. -/
theorem wpList_app {P : Program} {ops : Array Oper} {rest : List Oper} {o : Oper} {a : Act} {w w' : World} {Q : Exit → Act → World → Prop} (hgd : o.guard = none) (s x : Operand) (t : TypeId)
    (ho : o.op = .call { callee := .builtin .append, args := #[s, x], argTypes := #[t, t] }) {vs vx v : Value} (hs : a.eval s = vs) (hx : a.eval x = vx) (hr : (Builtin.append_ #[t, t] o.type #[vs, vx]).run P w = .ok v w') (h : wpList P ops Q rest (a.put o.dst v) w') :
    wpList P ops Q (o :: rest) a w := by
  refine wpList_plain hgd fun K hK => ?_
  unfold Oper.wp execOp
  simp only [ho, resolve, invoke, builtin, Sem.run_bind, Sem.run_pure, Result.andThen_ok, List.map_toArray, List.map_cons, List.map_nil, hs, hx, hr]
  exact hK _ _ h

def slen : Value → Nat
  | .slice _ n _ => n
  | _ => 0

set_option maxRecDepth 100000 in
set_option maxHeartbeats 4000000 in
theorem put_calls {w : World} {p : Nat} {F : Nat → Prop} {most life : Int} {l : List On} {t : Nat} (h : IdR w p F most life l t) (ht : t ≤ 30000) (hlife : 0 ≤ life ∧ life ≤ 1048576) (hmost : 0 ≤ most) {nm : ByteArray} (hnm : nm.size ≤ 1000) {c : Int} (hc : AgInt.KOk c) (now : Int) :
    Calls Try.prog 16 #[.pointer (some ⟨p, 0, none⟩), .string nm, .int .i64 c, .int .i64 now] w fun e w' => ∃ F' A cA, e = .returned (.slice A (putL most l nm c (AgInt.clipT (AgInt.clipT now + life)) ((t + 1 : Nat) : Int)).2.length cA) ∧ ISeg w' A (putL most l nm c (AgInt.clipT (AgInt.clipT now + life)) ((t + 1 : Nat) : Int)).2.length cA (putL most l nm c (AgInt.clipT (AgInt.clipT now + life)) ((t + 1 : Nat) : Int)).2 ∧ (∀ k, blockOf A = some k → w.heap.size ≤ k ∧ ¬ F' k) ∧
      IdR w' p F' most life (putL most l nm c (AgInt.clipT (AgInt.clipT now + life)) ((t + 1 : Nat) : Int)).1 (t + 1) ∧ Step F w w' ∧ ∀ k, F' k → F k ∨ w.heap.size ≤ k := by
  have HD := drop_calls h (by omega) hc
  obtain ⟨R, hR⟩ : ∃ R, putL most l nm c (AgInt.clipT (AgInt.clipT now + life)) ((t + 1 : Nat) : Int) = R := ⟨_, rfl⟩
  rw [hR]
  have HR := Lib.hid hR
  have hF0 := h.1
  clear hR h
  have hclip : (if (0 : Int) < (if (1099511627776 : Int) < now then 1099511627776 else now) then (if (1099511627776 : Int) < now then 1099511627776 else now) else 0) = AgInt.clipT now := clip1_if now 0 1099511627776 (by omega)
  have hcb : 0 ≤ AgInt.clipT now ∧ AgInt.clipT now ≤ 1099511627776 := by unfold AgInt.clipT; omega
  generalize AgInt.clipT now = nw at *
  obtain ⟨nn, hnn⟩ : ∃ nn, (if (1099511627776 : Int) < now then 1099511627776 else now) = nn := ⟨_, rfl⟩
  rw [hnn] at hclip
  obtain ⟨v, hv⟩ : ∃ v, nw + life = v := ⟨_, rfl⟩
  have hwv : IntKind.i64.wrap v = v := IntWalk.i64_in _ (by omega)
  go_enter Try.func16, Try.ntmps16
  go_upto_region 2 with (go_at_call 18; refine HD.mono ?_; rintro e w1 ⟨rfl, hI1, hs1⟩)
  have hll := hI1.len_le
  have hcn := own_dropped l c
  obtain ⟨l1, hl1⟩ : ∃ l1, dropC l c = l1 := ⟨_, rfl⟩
  rw [hl1] at hI1 hcn hll
  have HL1 := Lib.hid hl1
  clear hl1 HD
  obtain ⟨h1, a, MS, MO, FA, L, ro, n1, n2, m2, fo, fs, hx, hF⟩ := hI1
  obtain ⟨A, cA, hlk, hseg, hAro⟩ := nm_look hx.ms hx.fs hx.row nm hnm
  have hsl := stack_le l1 nm
  have HX := Lib.hid hx
  have hne := hx.ne
  have hp1 := hx.blk.lt
  have hMS1 := hx.ms.lt
  have hMO1 := hx.mo.lt
  have hFA1 : ∀ k, FA k → k < w1.heap.size := fun k hk => hx.ag.lt hk
  have hAl : ∀ k, blockOf A = some k → k < w1.heap.size := fun k hk => hseg.lt hk
  have hrnf : ∀ k, blockOf A = some k → ¬ FA k ∧ k ≠ p ∧ k ≠ MS ∧ k ≠ MO := fun k hk => hx.rnf nm k (hAro k hk).1 (hAro k hk).2
  have hcnt := hx.cnt
  have HF1 := Lib.hid (⟨h1, hF⟩ : (∀ k, F k → k < w1.heap.size) ∧ ∀ k, ifoot p MS MO FA l1 ro k → F k)
  -- the append and the store of region 2
  have hal : Step (fun _ => False) w1 (w1.alloc (.cells #[.int .i64 c] 3)).drew := ((Step.refl _ _).alloc _).drew
  have hbn : Blk (w1.alloc (.cells #[.int .i64 c] 3)).drew w1.heap.size 3 [.int .i64 c] := (blk_new w1 [.int .i64 c] 3).drew
  obtain ⟨A2, c2, w2, hap, hseg2, hs2', hA2'⟩ := run_app1 (hseg.keep hal (fun _ _ h => h)) hbn (by omega)
  have hs2 : Step (fun k => blockOf A = some k) w1 w2 := (hal.mono (fun _ _ h => h.elim)).same hs2'
  have hA2 : ∀ k, blockOf A2 = some k → (stackOf l1 nm ≠ [] ∧ blockOf (ro nm).1 = some k) ∨ (w1.heap.size ≤ k ∧ k < w2.heap.size) := fun k hk => by
    rcases hA2' with e | ⟨j, e, hj⟩
    · exact .inl (hAro k (e ▸ hk))
    · rw [hk] at e
      obtain rfl := Option.some.inj e
      refine .inr ⟨?_, hseg2.lt hk⟩
      have := hal.size
      omega
  have hMS2 := hx.ms.keep hs2 (fun h => (hrnf MS h).2.2.1 rfl)
  obtain ⟨w3, hup, hMS3, hs3⟩ := hMS2.put msk Try.underlying83 (by omega) (.slice A2 ((stackOf l1 nm).length + 1) c2) (slit_ok nm) (mskey hnm)
  have hlook := hlk w1.drew ((Step.refl (fun k => ¬ k = MS) w1).drew)
  have hlook2 := hlk (w1.alloc (.cells #[.int .i64 c] 3)).drew (hal.mono (fun _ _ h => h.elim))
  have d2 := hx.blk.cell (i := 2) rfl
  have e2 := (hx.blk.keep hs2 (fun h => (hrnf p h).2.1 rfl)).cell (i := 2) rfl
  have e3 := ((hx.blk.keep hs2 (fun h => (hrnf p h).2.1 rfl)).keep hs3 hne.2.2.2.2.1).cell (i := 2) rfl
  have HMS3 := Lib.hid hMS3
  have HSEG2 := Lib.hid hseg2
  clear hx h1 hF hMS2 hMS3 hlk hseg hbn hA2' hseg2
  generalize hq0 : (stackOf l1 nm).length = q at *
  have HQ := Lib.hid hq0
  clear hq0
  go_region_held3 (fun w' => w'.cell? ⟨p, 2, none⟩ = some (.map (some MS))) (first | go_keep | assumption)
    ((refine step_app (by rfl) (.tmp 24) (.tmp 26) 40 (by rfl) (by rfl) (by rfl) hap ?_))
  all_goals
    have hs13 : Step (fun k => blockOf A = some k ∨ k = MS) w1 w3 := (hs2.mono (fun _ _ h => .inl h)).same (hs3.mono (fun _ _ h => .inr h))
    have hB3 := HX.out.blk.keep hs13 (fun h => h.elim (fun h => (hrnf p h).2.1 rfl) hne.2.2.2.2.1)
    have hMO3 := HX.out.mo.keep hs13 (fun h => h.elim (fun h => (hrnf MO h).2.2.2 rfl) (fun h => hne.2.2.2.1 h.symm))
    have hA3 := HX.out.ag.keep hs13 (fun k hk h => h.elim (fun h => (hrnf k h).1 hk) (fun h => hne.2.1 (h ▸ hk)))
    have hseg3 := HSEG2.out.keep hs3 (fun k hk e => by
      subst e
      rcases hA2 k hk with ⟨g1, g2⟩ | ⟨g1, g2⟩
      · exact (HX.out.rnf nm k g1 g2).2.2.1 rfl
      · omega)
    have hfo : (fo (ilit c)).isSome = false := by rw [HX.out.fo c, own_none hcn]; rfl
    have d3 := hB3.cell (i := 3) rfl
    have HM3 := Lib.hid hMO3
    clear d2 e2 e3 hlook hlook2 hap hup hMO3
    go_upto_region 4 with (refine wpList_mg_put rfl (.tmp 31) (.tmp 32) (.tmp 33) 36 rfl HM3.out mik Try.underlying36 (by omega) (val := .string nm) (ilit_ok c) (mikey hc) rfl rfl rfl ?_; intro w4 hMO4 hs4)
    rw [hfo, if_neg (by simp)] at hMO4
    have hB4 := hB3.keep hs4 hne.2.2.2.2.2
    have hA4 := hA3.keep hs4 (fun k hk e => hne.2.2.1 (e ▸ hk))
    have hseg4 := hseg3.keep hs4 (fun k hk e => by
      subst e
      rcases hA2 k hk with ⟨g1, g2⟩ | ⟨g1, g2⟩
      · exact (HX.out.rnf nm k g1 g2).2.2.2 rfl
      · omega)
    have hMS4 := HMS3.out.keep hs4 hne.2.2.2.1
    have d4 := hB4.cell (i := 4) rfl
    have d1 := hB4.cell (i := 1) rfl
    have HSE := Lib.hid (AgInt.set_calls (hA4.same ((Step.refl _ _).drew)) (by omega) hc v)
    clear d3 hA3 hB3 hseg3
    go_still_tail 13, (by kernel_rfl)
    have hsz2 := hs2.size
    have hsz3 := hs3.size
    have hsz4 := hs4.size
    have hMSf : ∀ k, FA k → k ≠ MS := fun k hk e => hne.2.1 (e ▸ hk)
    have hput : ∀ w5 FA5, AgInt.AgR w5 a FA5 (setL L c (AgInt.clipT v) ((t + 1 : Nat) : Int)) (t + 1) → Step FA w4 w5 → (∀ j, FA5 j → FA j ∨ w4.heap.size ≤ j) → ∃ F5, IdR w5 p F5 most life (addO l nm c (AgInt.clipT v) ((t + 1 : Nat) : Int)) (t + 1) ∧ Step F w w5 ∧ ∀ k, F5 k → F k ∨ w.heap.size ≤ k := by
      intro w5 FA5 hA5 hs5 hn5
      obtain rfl := HQ.out
      have hst : Step (fun k => FA k ∨ k = MO ∨ k = MS ∨ (stackOf l1 nm ≠ [] ∧ blockOf (ro nm).1 = some k)) w1 w5 :=
        ((hs13.mono (fun k _ h => h.elim (fun h => .inr (.inr (.inr (hAro k h)))) (fun h => .inr (.inr (.inl h))))).same (hs4.mono (fun _ _ h => .inr (.inl h)))).same (hs5.mono (fun _ _ h => .inl h))
      obtain ⟨ro', hx5, hf5⟩ := put_ok HX.out hcn hnm hc hst (H1 := w4.heap.size) (by omega) hA5 hn5 (hMO4.keep hs5 hne.2.2.1) (hMS4.keep hs5 hne.2.1) (hseg4.keep hs5 (fun k hk h => by
        rcases hA2 k hk with ⟨g1, g2⟩ | ⟨g1, g2⟩
        · exact (HX.out.rnf nm k g1 g2).1 h
        · have := hFA1 k h; omega)) (fun k hk => (hA2 k hk).imp id (fun h => ⟨h.1, by omega⟩))
      have hsz5 := hs5.size
      have hsz1 := hs1.size
      refine ⟨fun k => F k ∨ (w1.heap.size ≤ k ∧ k < w5.heap.size), ⟨fun k hk => ?_, a, MS, MO, FA5, _, ro', n1 + 1, n2 + 1, _, _, _, by unfold addO; rw [HL1.out]; exact hx5, fun k hk => ?_⟩, hs1.same (hst.mono (fun k _ h => HF1.out.2 k ?_)), fun k hk => hk.imp id (fun h => by omega)⟩
      · rcases hk with h | h
        · have := HF1.out.1 k h; omega
        · exact h.2
      · have hk' : ifoot p MS MO FA5 (l1 ++ [⟨nm, c, AgInt.clipT v, ((t + 1 : Nat) : Int)⟩]) ro' k := by rw [← HL1.out]; exact hk
        have hkl : k < w5.heap.size := by
          rcases hk' with h | h | h | h | ⟨s, h, e⟩
          · omega
          · omega
          · omega
          · exact hA5.lt h
          · exact (hx5.row s h).lt e
        rcases hf5 k hk' with h | h
        · exact .inl (HF1.out.2 k h)
        · exact .inr ⟨h, hkl⟩
      · rcases h with h | h | h | h
        · exact .inr (.inr (.inr (.inl h)))
        · exact .inr (.inr (.inl h))
        · exact .inr (.inl h)
        · exact .inr (.inr (.inr (.inr ⟨nm, h⟩)))
    have HPUT := Lib.hid hput
    clear hput hMO4 hMS4 hseg4 hA4
    go_upto_region 5 with (go_at_call 10; refine HSE.out.mono ?_; rintro e w5 ⟨rfl, FA5, hA5, hs5', hn5⟩; have hs5 : Step FA w4 w5 := ((Step.refl FA w4).drew).same hs5'; obtain ⟨F5, hI5, hst5, hnr5⟩ := HPUT.out w5 FA5 hA5 hs5 hn5)
    clear hA5 hs5' hs5 hn5 hMSf hsz2 hsz3 hsz4 d4 d1 hfo HSE HPUT HM3 hMO1 hMS1 hp1 hAl hrnf hAro hA2 hB4 hs4 hs13 hs3 hs2 hs2' hFA1 HMS3 HSEG2 HF1 HX hne hcnt hcn hal hs1 hsl hll HQ hcb
    rw [hv] at HR
    obtain ⟨l2, hl2⟩ : ∃ l2, addO l nm c (AgInt.clipT v) ((t + 1 : Nat) : Int) = l2 := ⟨_, rfl⟩
    have hR2 : evictN l2.length most nm l2 [] = R := by rw [← hl2]; exact HR.out
    rw [hl2] at hI5
    clear hl2 HR
    obtain ⟨N, hN⟩ : ∃ N, l2.length = N := ⟨_, rfl⟩
    have hNle : N ≤ t + 1 := by rw [← hN]; exact hI5.len_le
    have hF5w : ∀ k, F5 k → k < w5.heap.size := hI5.1
    have HN := Lib.hid hN
    have HR2 := Lib.hid hR2
    clear hN hR2
    go_wp2
    go_loopw [9, 10] (fun v9 v10 wr => ∃ (l' : List On) (cl : List Int) (A : Option Addr) (cA : Nat), v9 = .slice A cl.length cA ∧ ISeg wr A cl.length cA cl ∧ (∀ k, blockOf A = some k → w5.heap.size ≤ k) ∧ IdR wr p F5 most life l' (t + 1) ∧ evictN l'.length most nm l' cl = R ∧ l'.length + cl.length = N ∧ Step (fun k => F5 k ∨ w5.heap.size ≤ k) w5 wr) (fun v9 _ _ => N - slen v9)
    case atStart => exact ⟨l2, [], none, 0, rfl, iseg_nil _, fun k hk => (by cases hk), hI5, HR2.out, by rw [HN.out]; rfl, Step.refl _ _⟩
    case round =>
      clear hI5
      obtain ⟨l', cl, A, cA, rfl, hsg, hAl, hI, hev, hlen, hst⟩ := hrel
      have hlt5 := hst.size
      have hF5 : ∀ k, F5 k → k < wr.heap.size := hI.1
      obtain ⟨g1, a, MS, MO, FA, L, ro, n1, n2, m2, fo, fs, hx, hFx⟩ := id hI
      obtain ⟨B, cB, hlk, hseg, hBro⟩ := nm_look hx.ms hx.fs hx.row nm hnm
      have d2 := hx.blk.cell (i := 2) rfl
      have d0 := hx.blk.cell (i := 0) rfl
      have hlook := hlk wr.drew ((Step.refl (fun k => ¬ k = MS) wr).drew)
      have HLK := Lib.hid hlk
      have HX := Lib.hid hx
      have HI := Lib.hid hI
      have HST := Lib.hid hst
      have hlq : (stackOf l' nm).length ≤ l'.length := stack_le l' nm
      have hNl : l'.length ≤ N := by omega
      clear hlk hx g1 hFx hI hst
      by_cases hm : most < ((stackOf l' nm).length : Int)
      · obtain ⟨e, r, hes⟩ : ∃ e r, stackOf l' nm = e :: r := by
          cases hst' : stackOf l' nm with
          | nil => rw [hst'] at hm; simp at hm; omega
          | cons e r => exact ⟨e, r, rfl⟩
        obtain ⟨o, ho, _, hoe⟩ := stack_mem.1 (by rw [hes]; exact List.mem_cons_self .. : e ∈ stackOf l' nm)
        have hke : AgInt.KOk e := hoe ▸ (HX.out.ok o ho).2
        have hdl := dropC_length HX.out.ndc ho
        rw [hoe] at hdl
        obtain ⟨g, rfl⟩ := hseg.one (i := 0) (by rw [hes, List.length_cons]; omega)
        have c0 := hseg.cell (i := 0) (x := e) (by rw [hes]; rfl)
        have HC0 := Lib.hid (fun wa (hsa : Step (fun _ => False) wr wa) => (hseg.keep hsa (fun _ _ h => h)).cell (i := 0) (x := e) (by rw [hes]; rfl))
        have hcap := hseg.le
        have hev2 : evictN (dropC l' e).length most nm (dropC l' e) (cl ++ [e]) = R := by
          rw [← evict_step (n := (dropC l' e).length) hm hes, hdl]; exact hev
        have hq0 : 0 < (stackOf l' nm).length := by rw [hes, List.length_cons]; omega
        have HEV := Lib.hid hev2
        have HSG := Lib.hid hsg
        clear hev hev2 ho hoe hseg hBro hsg hes
        generalize hql : (stackOf l' nm).length = q at *
        have HQL := Lib.hid hql
        clear hql
        go_upto_region 6 with (fail)
        go_still_tail 11, (by kernel_rfl)
        go_upto_region 7 with (fail)
        refine drew_next ?_
        intro wa hsa
        have hB := HX.out.blk.keep hsa (fun h => h)
        have d2' := hB.cell (i := 2) rfl
        have c0' := HC0.out wa hsa
        have hlook' := HLK.out wa (hsa.mono (fun _ _ h => h.elim))
        have HDR := Lib.hid (drop_calls (HI.out.same hsa) (by omega) hke)
        clear d2 d0 c0 hlook
        go_upto_region 9 with (go_at_call 18; refine HDR.out.mono ?_; rintro e1 w6 ⟨rfl, hI6, hs6⟩)
        have hsga : ISeg wa A cl.length cA cl := HSG.out.keep hsa (fun _ _ h => h)
        have hsz6a := hsa.size
        have hsg6 : ISeg w6 A cl.length cA cl := hsga.keep hs6 (fun k hk h => by have := hAl k hk; have := hF5w k h; omega)
        have ha6 : Step (fun _ => False) w6 (w6.alloc (.cells #[.int .i64 e] 3)) := (Step.refl _ _).alloc _
        obtain ⟨A', cA', w7, hap, hsg7, hs7', hA'⟩ := run_app1 (hsg6.keep ha6 (fun _ _ h => h)) (blk_new w6 [.int .i64 e] 3) (by omega)
        have hs7 : Step (fun k => blockOf A = some k) w6 w7 := (ha6.mono (fun _ _ h => h.elim)).same hs7'
        have hsz6 := hs6.size
        have hA7 : ∀ k, blockOf A' = some k → w5.heap.size ≤ k := fun k hk => by
          rcases hA' with e' | ⟨j, e', hj⟩
          · exact hAl k (e' ▸ hk)
          · rw [hk] at e'
            obtain rfl := Option.some.inj e'
            have := ha6.size
            omega
        have hI7 := hI6.keep hs7 (fun k hk h => by have := hAl k h; have := hF5w k hk; omega)
        have hst7 : Step (fun k => F5 k ∨ w5.heap.size ≤ k) w5 w7 := ((HST.out.same (hsa.mono (fun _ _ h => h.elim))).same (hs6.mono (fun _ _ h => .inl h))).same (hs7.mono (fun k _ h => .inr (hAl k h)))
        have HI7 := Lib.hid hI7
        have HSG7 := Lib.hid hsg7
        have hcl1 : (cl ++ [e]).length = cl.length + 1 := by simp
        clear hsga hsg6 hI6 hI7 hsg7 hA' hs7'
        go_wp2_with (at_builtin; refine wpList_app (by rfl) (.tmp 71) (.tmp 73) 40 (by rfl) (by rfl) (by rfl) hap ?_)
        go_roundw
        case rel => exact ⟨dropC l' e, cl ++ [e], A', cA', by rw [hcl1], by rw [hcl1]; exact HSG7.out, hA7, HI7.out, HEV.out, by rw [hcl1]; omega, hst7⟩
        case measure => simp only [slen]; omega
      · have hq : ¬ (most < ((stackOf l' nm).length : Int)) := hm
        have hfin : R = (l', cl) := by rw [← hev]; exact evict_stop _ hm
        have HFI := Lib.hid hfin
        have HSG := Lib.hid hsg
        clear hev hfin hseg hBro hsg hm
        generalize hql : (stackOf l' nm).length = q at *
        have HQL := Lib.hid hql
        clear hql
        go_upto_region 6 with (fail)
        go_still_tail 11, (by kernel_rfl)
        go_wp2
        go_ret
        have hd : Step (fun k => F5 k ∨ w5.heap.size ≤ k) wr wr.drew := (Step.refl _ _).drew
        have hstw : Step F w wr.drew := hst5.trans (HST.out.same hd) (fun j hj h => by
          have := hst5.size
          rcases h with h | h
          · exact (hnr5 j h).elim id (fun h => by omega)
          · omega)
        have hwz := hst5.size
        rw [HFI.out]
        exact ⟨F5, A, cA, rfl, HSG.out.keep ((Step.refl (fun _ => False) wr).drew) (fun _ _ h => h), fun k hk => ⟨by have := hAl k hk; omega, fun h => by have := hAl k hk; have := hF5w k h; omega⟩, HI.out.same ((Step.refl _ _).drew), hstw, hnr5⟩
end Go.Proofs.Ytgohlbljdffelaa.Idl
