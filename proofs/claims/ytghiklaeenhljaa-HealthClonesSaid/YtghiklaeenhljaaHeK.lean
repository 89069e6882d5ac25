/- health: Clone. Own work of this seat. -/
import Derived.Test.YtghiklaeenhljaaMHealthEpochs2
import Derived.Test.YtghiklaeenhljaaAgKStr 
import Derived.Test.YtghiklaeenhljaaMapsL
import Derived.Deep.RegionHeld3
namespace Go.Proofs.Ytghiklaeenhljaa.Hea
open Go.RowKit Go.Proofs.Ytghiklaeenhljaa.Kit Go.Proofs.YtghiklaeenhljaaW.PrintWords Go.Proofs.Ytghiklaeenhljaa.AgP Go.Proofs.Ytghiklaeenhljaa
set_option linter.unusedVariables false
set_option linter.unusedSimpArgs false

theorem mclone_calls {w : World} {b n m : Nat} {f : Lit → Option Value} (h : MG Try.prog 9 w b n m f) :
    Calls Try.prog 47 #[.map (some b)] w fun e w' => ∃ b', e = .returned (.map (some b')) ∧ w.heap.size ≤ b' ∧ MG Try.prog 9 w' b' n m f ∧ Step (fun _ => False) w w' := by
  obtain ⟨D, hD, hm⟩ := h
  refine (AnyW.maps_Clone_owns Try.mapsClone 9 anyElem b n D w hD).mono ?_
  rintro e w' ⟨rfl, h1, h2, h3⟩
  exact ⟨_, rfl, Nat.le_refl _, ⟨D, h1, hm⟩, Step.of_below h3⟩

set_option maxRecDepth 100000 in
set_option maxHeartbeats 4000000 in
theorem clone_calls {w : World} {p : Nat} {F : Nat → Prop} {c : Cf} {q : ByteArray → Option Ho} {L : List (Ev ByteArray)} {t u : Nat} {ep : Int} (h : HeR w p F c q L t u ep) (hu : u ≤ 80000) :
    Calls Try.prog 25 #[.pointer (some ⟨p, 0, none⟩)] w fun e w' => ∃ p' F', e = .returned (.pointer (some ⟨p', 0, none⟩)) ∧ HeR w' p' F' c q L t u ep ∧ Step (fun _ => False) w w' ∧ ∀ k, F' k → w.heap.size ≤ k := by
  obtain ⟨g1, a, M, FA, n, m, f, hx, hnu, hF⟩ := h
  have HX := Lib.hid hx
  have y0 := hx.blk.cell (i := 0) rfl
  have y1 := hx.blk.cell (i := 1) rfl
  have y2 := hx.blk.cell (i := 2) rfl
  have y3 := hx.blk.cell (i := 3) rfl
  have y4 := hx.blk.cell (i := 4) rfl
  have y5 := hx.blk.cell (i := 5) rfl
  have y6 := hx.blk.cell (i := 6) rfl
  have HF := Lib.hid hF
  have hpl := hx.blk.lt
  clear hx hF
  obtain ⟨c0, c1, c2, c3⟩ := c
  simp only at y0 y1 y2 y3 y4 y5 y6
  go_enter Try.func25, Try.ntmps25
  go_upto_region 2 with (fail)
  refine alloc_next (cs := [.int .i64 c0, .int .i64 c1, .int .i64 c2, .int .i64 c3, .map (some M), .pointer (some ⟨a, 0, none⟩), .int .i64 ep]) ?_
  intro w1 hN hs1
  have hx1 := HX.out.keep hs1 (fun _ _ h => h)
  have hq1 : Step (fun _ => False) w1 w1.drew := (Step.refl _ _).drew
  have HM := Lib.hid (mclone_calls ((hx1.keep hq1 (fun _ _ h => h)).mg))
  have HA := Lib.hid (fun w' (hs : Step (fun _ => False) w1 w') => AgStr.clone_calls (hx1.keep hs (fun _ _ h => h)).ag (by omega))
  have HX1 := Lib.hid hx1
  have HN := Lib.hid hN
  have hz1 := hs1.size
  have hnl := hN.lt
  obtain ⟨nb, hnb⟩ : ∃ nb, w.heap.size = nb := ⟨_, rfl⟩
  rw [hnb] at HN hz1 hnl hpl ⊢
  have HNB := Lib.hid hnb
  have y4 := hx1.blk.cell (i := 4) rfl
  have y5 := hx1.blk.cell (i := 5) rfl
  clear hx1 hN hnb y0 y1 y2 y3 y6
  go_region_with (first
    | (go_at_call 47; refine HM.out.mono ?_; clear HM; rintro e2 w2 ⟨M2, rfl, hM2e, hM2, hs2⟩; have hq2 := hq1.same hs2; clear y4 y5; have y5 := (HX1.out.keep hq2 (fun _ _ h => h)).blk.cell (i := 5) rfl; have y4 := (HX1.out.keep hq2 (fun _ _ h => h)).blk.cell (i := 4) rfl)
    | (go_at_call 48; refine (HA.out w2 hq2).mono ?_; clear HA; rintro e3 w3 ⟨a3, F3, rfl, hA3, hs3, hn3⟩; have hN3 := HN.out.keep (hq2.same hs3) (fun h => h); have f4 := hN3.free 4; have f5 := hN3.free 5; have r4 := hN3.cell (i := 4) rfl; have r5 := hN3.cell (i := 5) rfl; clear y4 y5))
  all_goals
    have hZ := (hN3.set 4 (.map (some M2))).set 5 (.pointer (some ⟨a3, 0, none⟩))
    have hsZ := ((Step.refl (· = nb) w3).setCell (p := ⟨nb, 4, none⟩) (fun _ => rfl) (.map (some M2))).setCell (p := ⟨nb, 5, none⟩) (fun _ => rfl) (.pointer (some ⟨a3, 0, none⟩))
    go_wp2
    go_ret
    have hz2 := hs2.size
    have hz3 := hs3.size
    have hqz : w1.drew.heap.size = w1.heap.size := rfl
    have hwn := HNB.out
    have hM3 := hM2.keep hs3 (fun h => h)
    have hMl := hM3.lt
    have hAl := fun k (hk : F3 k) => hA3.lt hk
    have hAn := fun k (hk : F3 k) => hn3 k hk
    have hok := HX1.out.ok
    have hcok := HX1.out.cok
    have hfn := HX1.out.fn
    have hM2l := hM2.lt
    have hMZ := hM3.keep hsZ (fun e => by have : M2 = nb := e; omega)
    have hAZ := hA3.keep hsZ (fun k hk e => by have : k = nb := e; have := hAn k hk; omega)
    have hzZ := hsZ.size
    refine ⟨nb, fun k => k = nb ∨ k = M2 ∨ F3 k, rfl, ⟨fun k hk => ?_, a3, M2, F3, n, m, f, ⟨hZ, hAZ, hMZ, hfn, ⟨fun h => by have := hAn _ h; omega, fun h => by have := hAn _ h; omega, by omega⟩, hok, hcok⟩, hnu, fun k hk => hk⟩, (hs1.same (hq1.same (hs2.same hs3))).trans hsZ (fun j hj e => by have : j = nb := e; omega), fun k hk => ?_⟩
    · rcases hk with h | h | h
      · omega
      · omega
      · have := hAl k h; omega
    · rcases hk with h | h | h
      · omega
      · omega
      · have := hAn k h; omega
end Go.Proofs.Ytghiklaeenhljaa.Hea
