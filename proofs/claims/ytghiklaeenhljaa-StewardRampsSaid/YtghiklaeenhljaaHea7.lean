/- health: Add. Own work of this seat. -/
import Derived.Test.YtghiklaeenhljaaHea6
namespace Go.Proofs.Ytghiklaeenhljaa.Hea
open Go.RowKit Go.Proofs.Ytghiklaeenhljaa.Kit Go.Proofs.Ytghiklaeenhljaa.PStewardRamps Go.Proofs.YtghiklaeenhljaaW.PrintWords Go.Proofs.Ytghiklaeenhljaa.AgP Go.Proofs.Ytghiklaeenhljaa
set_option linter.unusedVariables false
set_option linter.unusedSimpArgs false

theorem pnew_calls (up : Bool) (now : Int) (w : World) : Calls Try.prog 29 #[.bool up, .int .i64 now] w fun e w' => e = .returned (.agg #[.bool up, .int .i64 0, .int .i64 0, .int .i64 now]) ∧ Step (fun _ => False) w w' :=
  (probe_New.calls up now _ _ _ _ w rfl).mono fun e w' h => ⟨h.1, step_bel h.2⟩

set_option maxRecDepth 100000 in
set_option maxHeartbeats 4000000 in
theorem add_new {w : World} {p : Nat} {F : Nat → Prop} {c : Cf} {q : ByteArray → Option Ho} {L : List (Ev ByteArray)} {t u : Nat} {ep : Int} (h : HeR w p F c q L t u ep) (hu : u ≤ 79000) (hep : 0 ≤ ep ∧ ep ≤ 1000000000) {s : ByteArray} (hs : s.size ≤ 1000) (up : Bool) (now : Int) (hq : q s = none) :
    Calls Try.prog 8 #[.pointer (some ⟨p, 0, none⟩), .string s, .bool up, .int .i64 now] w fun e w' => ∃ F', e = .returned (.bool true) ∧
      HeR w' p F' c (setQ q s (some ⟨⟨up, 0, 0, AgStr.clipT now⟩, false⟩)) (timL L t s (AgStr.clipT now + c.every)).1 (timL L t s (AgStr.clipT now + c.every)).2 (u + 2) (ep + 1) ∧ Step F w w' ∧ ∀ k, F' k → F k ∨ w.heap.size ≤ k := by
  obtain ⟨g1, a, M, FA, n, m, f, hx, hnu, hF⟩ := id h
  have c4 := hx.blk.cell (i := 4) rfl
  have hl := hx.look_ok hs
  have hcok := hx.cok
  have hcl : 0 ≤ AgStr.clipT now ∧ AgStr.clipT now ≤ 1099511627776 := by unfold AgStr.clipT; omega
  have HTI := Lib.hid (fun w1 => tick_calls now w1)
  rw [hq] at hl
  unfold encH at hl
  generalize AgStr.clipT now = nw at *
  have HNW := Lib.hid (fun w1 => pnew_calls up nw w1)
  simp only [Option.getD_none, Option.isSome_none] at hl
  have HX := Lib.hid hx
  have HF := Lib.hid (⟨g1, hF⟩ : (∀ k, F k → k < w.heap.size) ∧ ∀ k, (k = p ∨ k = M ∨ FA k) → F k)
  have hp := hx.blk.lt
  have hM := hx.mg.lt
  have hFA : ∀ k, FA k → k < w.heap.size := fun k hk => hx.ag.lt hk
  clear hx hF h g1
  go_enter Try.func8, Try.ntmps8
  go_upto_region 5 with (go_at_call 28; refine (HTI.out _).mono ?_; rintro e w2 ⟨rfl, hs2⟩)
  have hal : Step (fun _ => False) w (w.alloc (.cells #[.bool false, .int .i64 0, .int .i64 0, .int .i64 0, .bool false] 77)) := (Step.refl _ _).alloc _
  have hst2 : Step (fun _ => False) w w2 := hal.same hs2
  have hx2 := HX.out.keep hst2 (fun _ _ h => h)
  have d4 := hx2.blk.cell (i := 4) rfl
  have hdr := (Step.refl (fun _ => False) w2).drew
  have HCC := Lib.hid (fun w3 (hs3 : Step (fun _ => False) w2 w3) => (hx2.blk.keep hs3 (fun h => h)).cell (i := 4) rfl)
  have HPUT := Lib.hid (fun w3 (hs3 : Step (fun _ => False) w2 w3) => (hx2.mg.keep hs3 (fun h => h)).put msk Try.underlying69 (by omega) (encH ⟨⟨up, 0, 0, nw⟩, false⟩) (slit_ok s) (mskey hs))
  clear hx2 c4 hl
  unfold encH at HPUT
  go_region_with (go_at_call 29; refine (HNW.out _).mono ?_; rintro e w3 ⟨rfl, hs3⟩; have hs23 : Step (fun _ => False) w2 w3 := (by first | exact hdr.same hs3 | exact hs3); have d5 := HCC.out _ hs23; obtain ⟨w4, hup, hM4, hs4⟩ := HPUT.out _ hs23)
  all_goals
    have hst3 : Step (fun _ => False) w w3 := hst2.same hs23
    have hx4 := (HX.out.keep hst3 (fun _ _ h => h)).put (y := ⟨⟨up, 0, 0, nw⟩, false⟩) hs4 hM4 (by unfold PbOk; simp)
    have hst4 : Step F w w4 := (hst3.mono (fun _ _ h => h.elim)).same (hs4.mono (fun k _ e => (show k = M from e) ▸ HF.out.2 M (.inr (.inl rfl))))
    have hsz4 := hst4.size
    have hI4 : HeR w4 p F c (setQ q s (some ⟨⟨up, 0, 0, nw⟩, false⟩)) L t (u + 1) ep :=
      ⟨fun k hk => by have := HF.out.1 k hk; omega, a, M, FA, _, _, _, hx4, by omega, HF.out.2⟩
    have d0 := hx4.blk.cell (i := 0) rfl
    have HSE := Lib.hid (set_calls hI4 (by omega) hs hcl hcok.1)
    have hce := hcok.1
    clear hM4 hx4 hI4 d4 d5 hup hs4 hcok
    go_upto_region 7 with (go_at_call 30; refine HSE.out.mono ?_; rintro e w6 ⟨rfl, F6, hI6, hs6, hn6⟩)
    have hst6 : Step F w w6 := hst4.same hs6
    have hn6w : ∀ k, F6 k → F k ∨ w.heap.size ≤ k := fun k hk => (hn6 k hk).imp id (fun h => by omega)
    clear HSE d0 hn6
    obtain ⟨e1, a2, M2, FA2, n2, m2, f2, hx6, hnu2, hF6⟩ := hI6
    have d6 := hx6.blk.cell (i := 6) rfl
    have g6 := hx6.blk.free 6
    have HX6 := Lib.hid hx6
    clear hx6
    go_upto_region 8 with (fail)
    refine put_plain HX6.out.blk ?_
    intro w7 hB7 hs7
    have hx7 := HX6.out.eph hs7 hB7
    have hsz7 := hs7.size
    have hI7 : HeR w7 p F6 c (setQ q s (some ⟨⟨up, 0, 0, nw⟩, false⟩)) _ _ (u + 2) (ep + 1) := ⟨fun k hk => by have := e1 k hk; omega, a2, M2, FA2, n2, m2, f2, hx7, by omega, hF6⟩
    have hst7 : Step F w w7 := hst6.same (hs7.mono (fun k _ e => by
      have : k = p := e
      rw [this]
      exact HF.out.2 p (.inl rfl)))
    have HI7 := Lib.hid hI7
    clear d6 g6 hx7 hB7 hI7
    go_wp2
    go_ret
    exact ⟨F6, rfl, HI7.out, hst7, hn6w⟩
end Go.Proofs.Ytghiklaeenhljaa.Hea
