/- health: Run. Own work of this seat. -/
import Derived.Test.YtghiklaeenhljaaHea4
namespace Go.Proofs.Ytghiklaeenhljaa.Hea
open Go.RowKit Go.Proofs.Ytghiklaeenhljaa.Kit Go.Proofs.Ytghiklaeenhljaa.PStewardRamps Go.Proofs.YtghiklaeenhljaaW.PrintWords Go.Proofs.Ytghiklaeenhljaa.AgP Go.Proofs.Ytghiklaeenhljaa
set_option linter.unusedVariables false
set_option linter.unusedSimpArgs false

structure Hs where
  q : ByteArray → Option Ho
  L : List (Ev ByteArray)
  t : Nat
  ep : Int
  ev : List Evn
def stepH (c : Cf) (S : Hs) (s : Ev ByteArray) (r : List (Ev ByteArray)) : Hs :=
  ⟨setQ S.q s.key (some (turQ ((S.q s.key).getD zHo) c s.tm)), (timL r S.t s.key (turV ((S.q s.key).getD zHo) c s.tm)).1, (timL r S.t s.key (turV ((S.q s.key).getD zHo) c s.tm)).2, turN ((S.q s.key).getD zHo) c s.tm S.ep, S.ev ++ turE ((S.q s.key).getD zHo) c s.key s.tm⟩
/-- From S all that is to be done up to a tick leads to R. -/
inductive Runs (c : Cf) (now : Int) : Hs → Hs → Prop
  | stop (S : Hs) (h : ∀ s ∈ S.L.head?, now < s.tm) : Runs c now S S
  | step (S R : Hs) (s : Ev ByteArray) (r : List (Ev ByteArray)) (e : S.L = s :: r) (h : ¬ now < s.tm) (k : Runs c now (stepH c S s r) R) : Runs c now S R
/-- How much is to be done, at most. -/
def load (now : Int) (L : List (Ev ByteArray)) : Nat := (L.map (fun s => (now + 1 - s.tm).toNat)).sum
theorem load_perm {now : Int} {L R : List (Ev ByteArray)} (h : L.Perm R) : load now L = load now R := (h.map _).sum_nat
theorem load_step {c : Cf} (hc : CfOk c) {now : Int} {s : Ev ByteArray} {r : List (Ev ByteArray)} (hn : ((s :: r).map (·.key)).Nodup) (h : ¬ now < s.tm) (x : Ho) (t : Nat) : load now (timL r t s.key (turV x c s.tm)).1 + 1 ≤ load now (s :: r) := by
  have hv : s.tm + 1 ≤ turV x c s.tm := by
    unfold turV
    obtain ⟨h1, h2, _⟩ := hc
    split <;> omega
  have hd : dropL r s.key = r := drop_none (fun y hy e => by
    rw [List.map_cons, List.nodup_cons] at hn
    exact hn.1 (e ▸ List.mem_map_of_mem hy))
  have h0 : load now (s :: r) = (now + 1 - s.tm).toNat + load now r := by simp [load]
  unfold timL
  split
  · have hp := perm_set r s.key (turV x c s.tm) ((t + 1 : Nat) : Int)
    rw [hd] at hp
    rw [load_perm hp, h0]
    have h1 : load now (⟨s.key, turV x c s.tm, ((t + 1 : Nat) : Int)⟩ :: r) = (now + 1 - turV x c s.tm).toNat + load now r := by simp [load]
    rw [h1]
    omega
  · rw [hd]
    show (load now r : Nat) + 1 ≤ _
    rw [h0]
    omega
theorem turE_len (x : Ho) (c : Cf) (s : ByteArray) (at_ : Int) : 1 ≤ (turE x c s at_).length ∧ (turE x c s at_).length ≤ 2 := by
  unfold turE
  split
  · unfold resE
    split <;> simp
  · simp
theorem getD_ok {q : ByteArray → Option Ho} (h : ∀ s x, q s = some x → PbOk x.pb) (s : ByteArray) : PbOk ((q s).getD zHo).pb := by
  cases hq : q s with
  | none => unfold PbOk; simp [zHo]
  | some x => exact h s x hq
theorem timL_tm {r : List (Ev ByteArray)} {t : Nat} {k : ByteArray} {v : Int} (hv : 0 ≤ v) (h : ∀ s ∈ r, 0 ≤ s.tm ∧ s.tm ≤ 1099511627776) : ∀ s ∈ (timL r t k v).1, 0 ≤ s.tm ∧ s.tm ≤ 1099511627776 := by
  intro s hs
  unfold timL at hs
  split at hs
  · rcases mem_set.1 hs with rfl | ⟨h1, _⟩
    · exact ⟨hv, by assumption⟩
    · exact h s h1
  · exact h s (mem_drop.1 hs).1
theorem turN_bd (x : Ho) (c : Cf) (at_ ep : Int) : ep ≤ turN x c at_ ep ∧ turN x c at_ ep ≤ ep + 1 := by
  unfold turN
  split
  · split <;> omega
  · omega
def slen : Value → Nat
  | .slice _ n _ => n
  | _ => 0

set_option maxRecDepth 100000 in
set_option maxHeartbeats 4000000 in
theorem run_calls {w : World} {p : Nat} {F : Nat → Prop} {c : Cf} {q : ByteArray → Option Ho} {L : List (Ev ByteArray)} {t u : Nat} {ep : Int} (h : HeR w p F c q L t u ep) (now : Int) (hu : u + 2 * load now L ≤ 70000) (hep : 0 ≤ ep ∧ ep + load now L ≤ 1000000) (htm : ∀ s ∈ L, 0 ≤ s.tm ∧ s.tm ≤ 1099511627776) :
    Calls Try.prog 10 #[.pointer (some ⟨p, 0, none⟩), .int .i64 now] w fun e w' => ∃ (R : Hs) (F' : Nat → Prop) (A : Option Addr) (cA u' : Nat), Runs c now ⟨q, L, t, ep, []⟩ R ∧ e = .returned (.slice A R.ev.length cA) ∧ ESeg w' A R.ev.length cA R.ev ∧ (∀ k, blockOf A = some k → w.heap.size ≤ k ∧ ¬ F' k) ∧
      HeR w' p F' c R.q R.L R.t u' R.ep ∧ u' + 2 * load now R.L ≤ u + 2 * load now L ∧ (0 ≤ R.ep ∧ R.ep + load now R.L ≤ ep + load now L) ∧ (∀ s ∈ R.L, 0 ≤ s.tm ∧ s.tm ≤ 1099511627776) ∧ Step F w w' ∧ ∀ k, F' k → F k ∨ w.heap.size ≤ k := by
  obtain ⟨N, hN⟩ : ∃ N, load now L = N := ⟨_, rfl⟩
  rw [hN] at hu hep ⊢
  have HN := Lib.hid hN
  have HH := Lib.hid h
  have HT := Lib.hid htm
  clear hN h htm
  go_enter Try.func10, Try.ntmps10
  go_wp2
  go_loopw [5, 6, 7, 8] (fun v5 v6 v7 v8 wr => ∃ (S : Hs) (F1 : Nat → Prop) (A : Option Addr) (cA u1 : Nat), v5 = .slice A S.ev.length cA ∧ ESeg wr A S.ev.length cA S.ev ∧ (∀ k, blockOf A = some k → w.heap.size ≤ k ∧ ¬ F1 k) ∧ HeR wr p F1 c S.q S.L S.t u1 S.ep ∧ (∀ R, Runs c now S R → Runs c now ⟨q, L, t, ep, []⟩ R) ∧ u1 + 2 * load now S.L ≤ u + 2 * N ∧ (0 ≤ S.ep ∧ S.ep + load now S.L ≤ ep + N) ∧ S.ev.length + 2 * load now S.L ≤ 2 * N ∧ (∀ s ∈ S.L, 0 ≤ s.tm ∧ s.tm ≤ 1099511627776) ∧ Step F w wr ∧ ∀ k, F1 k → F k ∨ w.heap.size ≤ k) (fun v5 _ _ _ _ => 2 * N - slen v5)
  case atStart => exact ⟨⟨q, L, t, ep, []⟩, F, none, 0, u, rfl, eseg_nil _, fun k hk => (by cases hk), HH.out, fun R h => h, by show u + 2 * load now L ≤ _; rw [HN.out]; exact Nat.le_refl _, ⟨by show 0 ≤ ep; omega, by show ep + ((load now L : Nat) : Int) ≤ _; rw [HN.out]; exact Int.le_refl _⟩, by show 0 + 2 * load now L ≤ _; rw [HN.out]; omega, HT.out, Step.refl _ _, fun k hk => .inl hk⟩
  case round =>
    obtain ⟨⟨Sq, SL, St, Sep, Sev⟩, F1, A, cA, u1, rfl, hA, hAf, hI, hR, hu1, hep1, hev1, htm1, hst, hn1⟩ := hrel
    simp only at hA hI hR hu1 hep1 hev1 htm1 ⊢
    have hi1 := hI.1
    obtain ⟨g1, a, M, FA, n, m, f, hx, hnu, hF⟩ := id hI
    have c5 := hx.blk.cell (i := 5) rfl
    have hnd := hx.ag.nodup
    have hkok := hx.ag.kok
    have HP := Lib.hid (fun (h1 : t ≤ t) => AgStr.apop_calls hx.ag (by omega) now)
    have HX := Lib.hid hx
    have HI := Lib.hid hI
    have HR := Lib.hid hR
    have HST := Lib.hid hst
    have HA := Lib.hid hA
    have HT1 := Lib.hid htm1
    have hsz := hst.size
    clear hx hI hR hst hA htm1
    cases SL with
    | nil =>
      have HPP := Lib.hid (HP.out (Nat.le_refl _))
      have e1 : AgStr.popV [] now = (⟨#[]⟩, 0, false) := rfl
      have e2 : AgStr.popL [] now = [] := rfl
      rw [e1, e2] at HPP
      clear HP e1 e2
      go_wp2_with (go_at_call 32; refine HPP.out.mono ?_; rintro e w2 ⟨rfl, hA2, hs2⟩)
      go_ret
      have hI2 : HeR w2 p F1 c Sq [] St u1 Sep := ⟨fun k hk => by have := hi1 k hk; have := hs2.size; omega, a, M, FA, n, m, f, ⟨HX.out.blk.keep hs2 HX.out.ne.1, hA2, HX.out.mg.keep hs2 HX.out.ne.2.1, HX.out.fn, HX.out.ne, HX.out.ok, HX.out.cok⟩, hnu, hF⟩
      have hstw : Step F w w2 := HST.out.trans (hs2.mono (fun k _ h => hF k (.inr (.inr h)))) (fun j hj h => (hn1 j h).elim id (fun h => by omega))
      exact ⟨⟨Sq, [], St, Sep, Sev⟩, F1, A, cA, u1, HR.out _ (.stop _ (fun s hs => by cases hs)), rfl, HA.out.keep hs2 (fun k hk h => (hAf k hk).2 (hF k (.inr (.inr h)))), hAf, hI2, hu1, hep1, HT1.out, hstw, hn1⟩
    | cons s r =>
      by_cases hnow : now < s.tm
      · have HPP := Lib.hid (HP.out (Nat.le_refl _))
        have e1 : AgStr.popV (s :: r) now = (⟨#[]⟩, 0, false) := by unfold AgStr.popV; simp only; rw [if_pos hnow]
        have e2 : AgStr.popL (s :: r) now = s :: r := by unfold AgStr.popL; simp only; rw [if_pos hnow]
        rw [e1, e2] at HPP
        have HNW := Lib.hid hnow
        clear HP e1 e2 hnow
        go_wp2_with (go_at_call 32; refine HPP.out.mono ?_; rintro e w2 ⟨rfl, hA2, hs2⟩)
        go_ret
        have hI2 : HeR w2 p F1 c Sq (s :: r) St u1 Sep := ⟨fun k hk => by have := hi1 k hk; have := hs2.size; omega, a, M, FA, n, m, f, ⟨HX.out.blk.keep hs2 HX.out.ne.1, hA2, HX.out.mg.keep hs2 HX.out.ne.2.1, HX.out.fn, HX.out.ne, HX.out.ok, HX.out.cok⟩, hnu, hF⟩
        have hstw : Step F w w2 := HST.out.trans (hs2.mono (fun k _ h => hF k (.inr (.inr h)))) (fun j hj h => (hn1 j h).elim id (fun h => by omega))
        exact ⟨⟨Sq, s :: r, St, Sep, Sev⟩, F1, A, cA, u1, HR.out _ (.stop _ (fun y hy => by
          obtain rfl : s = y := by simpa using hy
          exact HNW.out)), rfl, HA.out.keep hs2 (fun k hk h => (hAf k hk).2 (hF k (.inr (.inr h)))), hAf, hI2, hu1, hep1, HT1.out, hstw, hn1⟩
      · have HPP := Lib.hid (HP.out (Nat.le_refl _))
        have e1 : AgStr.popV (s :: r) now = (s.key, s.tm, true) := by unfold AgStr.popV; simp only; rw [if_neg hnow]
        have e2 : AgStr.popL (s :: r) now = r := by unfold AgStr.popL; simp only; rw [if_neg hnow]
        rw [e1, e2] at HPP
        have hks : s.key.size ≤ 1000 := hkok s (List.mem_cons_self ..)
        have hstm := HT1.out s (List.mem_cons_self ..)
        have hstep := load_step HX.out.cok hnd hnow ((Sq s.key).getD zHo) St
        have hpk := getD_ok HX.out.ok s.key
        have hll := turE_len ((Sq s.key).getD zHo) c s.key s.tm
        have hnb := turN_bd ((Sq s.key).getD zHo) c s.tm Sep
        have HSH : ∀ R, Runs c now (stepH c ⟨Sq, s :: r, St, Sep, Sev⟩ s r) R → Runs c now ⟨q, L, t, ep, []⟩ R := fun R hR => HR.out R (.step _ R s r rfl hnow hR)
        have hge1 : 1 ≤ load now (s :: r) := by omega
        have HTU := Lib.hid (fun w2 (hI2 : HeR w2 p F1 c Sq r St u1 Sep) => turn_calls hI2 (by omega) (by omega) hks hstm rfl hpk)
        have HTM : ∀ y ∈ (timL r St s.key (turV ((Sq s.key).getD zHo) c s.tm)).1, 0 ≤ y.tm ∧ y.tm ≤ 1099511627776 := timL_tm (by
          obtain ⟨h1, h2, _⟩ := HX.out.cok
          unfold turV
          split <;> omega) (fun y hy => HT1.out y (List.mem_cons_of_mem _ hy))
        have HSHH := Lib.hid HSH
        have HTMM := Lib.hid HTM
        clear HP e1 e2 hnow HSH HTM hkok hnd hpk
        generalize hxq : (Sq s.key).getD zHo = xx at *
        have hI2f : ∀ w2, AgStr.AgR w2 a FA r St → Step FA wr w2 → HeR w2 p F1 c Sq r St u1 Sep := fun w2 hA2 hs2 => ⟨fun k hk => by have := hi1 k hk; have := hs2.size; omega, a, M, FA, n, m, f, ⟨HX.out.blk.keep hs2 HX.out.ne.1, hA2, HX.out.mg.keep hs2 HX.out.ne.2.1, HX.out.fn, HX.out.ne, HX.out.ok, HX.out.cok⟩, hnu, hF⟩
        have HI2 := Lib.hid hI2f
        have HAPP := Lib.hid (fun w3 A3 c3 (hA3 : ESeg w3 A3 (turE xx c s.key s.tm).length c3 (turE xx c s.key s.tm)) (hA : ESeg w3 A Sev.length cA Sev) => run_app_e hA hA3 (.inr (fun e => by rw [e] at hll; simp at hll)) (by omega))
        have hfr : ∀ k, F1 k → k < wr.heap.size := hi1
        obtain ⟨kk, hkk⟩ : ∃ kk, s.key = kk := ⟨_, rfl⟩
        obtain ⟨tt, htt⟩ : ∃ tt, s.tm = tt := ⟨_, rfl⟩
        simp only [hkk, htt] at HPP HTU HAPP hll hks hstm hstep hnb
        have HKK := Lib.hid hkk
        have HTT := Lib.hid htt
        obtain ⟨te, hte⟩ : ∃ te, turE xx c kk tt = te := ⟨_, rfl⟩
        rw [hte] at HTU HAPP hll
        have HTE := Lib.hid hte
        have hS : stepH c ⟨Sq, s :: r, St, Sep, Sev⟩ s r = ⟨setQ Sq kk (some (turQ xx c tt)), (timL r St kk (turV xx c tt)).1, (timL r St kk (turV xx c tt)).2, turN xx c tt Sep, Sev ++ te⟩ := by
          show (⟨setQ Sq s.key (some (turQ ((Sq s.key).getD zHo) c s.tm)), (timL r St s.key (turV ((Sq s.key).getD zHo) c s.tm)).1, (timL r St s.key (turV ((Sq s.key).getD zHo) c s.tm)).2, turN ((Sq s.key).getD zHo) c s.tm Sep, Sev ++ turE ((Sq s.key).getD zHo) c s.key s.tm⟩ : Hs) = _
          rw [hxq, hkk, htt, hte]
        have HSE := Lib.hid hS
        clear hS
        clear hkk htt hte hI2f
        go_wp2_with (first | (go_at_call 32; refine HPP.out.mono ?_; rintro e w2 ⟨rfl, hA2, hs2⟩) | (go_at_call 33; refine (HTU.out _ (HI2.out _ hA2 hs2)).mono ?_; rintro e w3 ⟨F3, A3, c3, rfl, hA3, hf3, hI3, hs3, hn3⟩; obtain ⟨A4, c4, w4, hap, hA4, hs4, hn4⟩ := HAPP.out w3 A3 c3 hA3 ((HA.out.keep hs2 (fun k hk h => (hAf k hk).2 (hF k (.inr (.inr h))))).keep hs3 (fun k hk h => (hAf k hk).2 h))) | (at_builtin; refine wpList_app (by rfl) (.tmp 22) (.tmp 26) 30 (by rfl) (by rfl) (by rfl) hap ?_))
        have hz2 := hs2.size
        have hz3 := hs3.size
        have hz4 := hs4.size
        have hAl : ∀ k, blockOf A = some k → k < wr.heap.size := fun k hk => HA.out.lt hk
        have hAF3 : ∀ k, blockOf A = some k → ¬ F3 k := fun k hk h => (hn3 k h).elim (hAf k hk).2 (fun h => by have := hAl k hk; omega)
        have hI4 := hI3.keep hs4 (fun k hk h => hAF3 k h hk)
        have hsl : (Sev ++ te).length = Sev.length + te.length := List.length_append
        have hstw : Step F w w4 := HST.out.trans (((hs2.mono (G := fun k => F1 k ∨ blockOf A = some k) (fun k _ h => .inl (hF k (.inr (.inr h))))).same (hs3.mono (fun k _ h => .inl h))).same (hs4.mono (fun k _ h => .inr h))) (fun j hj h => by
          rcases h with h | h
          · exact (hn1 j h).elim id (fun h => by omega)
          · have := (hAf j h).1; omega)
        have hn4w : ∀ k, F3 k → F k ∨ w.heap.size ≤ k := fun k hk => (hn3 k hk).elim (hn1 k) (fun h => .inr (by omega))
        have hA4f : ∀ k, blockOf A4 = some k → w.heap.size ≤ k ∧ ¬ F3 k := fun k hk => by
          rcases hn4 with e | ⟨j, e, hj⟩
          · rw [hk] at e
            exact ⟨(hAf k e.symm).1, hAF3 k e.symm⟩
          · rw [hk] at e
            obtain rfl := Option.some.inj e
            exact ⟨by omega, fun h => by have := hI3.1 _ h; omega⟩
        go_roundw
        case rel =>
          refine ⟨⟨setQ Sq kk (some (turQ xx c tt)), (timL r St kk (turV xx c tt)).1, (timL r St kk (turV xx c tt)).2, turN xx c tt Sep, Sev ++ te⟩, F3, A4, c4, u1 + 2, by rw [hsl], by show ESeg w4 A4 (Sev ++ te).length c4 (Sev ++ te); rw [hsl]; exact hA4, hA4f, hI4, fun R hR => HSHH.out R (by rw [HSE.out]; exact hR), ?_, ⟨?_, ?_⟩, ?_, ?_, hstw, hn4w⟩
          · show u1 + 2 + 2 * load now (timL r St kk (turV xx c tt)).1 ≤ _
            omega
          · show 0 ≤ turN xx c tt Sep
            omega
          · show turN xx c tt Sep + ((load now (timL r St kk (turV xx c tt)).1 : Nat) : Int) ≤ _
            omega
          · show (Sev ++ te).length + 2 * load now (timL r St kk (turV xx c tt)).1 ≤ _
            rw [hsl]
            omega
          · show ∀ y ∈ (timL r St kk (turV xx c tt)).1, _
            have := HTMM.out
            rw [HKK.out, HTT.out] at this
            exact this
        case measure =>
          simp only [slen]
          omega
end Go.Proofs.Ytghiklaeenhljaa.Hea
