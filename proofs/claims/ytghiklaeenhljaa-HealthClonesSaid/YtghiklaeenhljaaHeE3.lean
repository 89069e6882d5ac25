/- law 23: is. Own work of this seat. -/
import Derived.Test.YtghiklaeenhljaaHeE2
namespace Go.Proofs.Ytghiklaeenhljaa.HeD
open Go.RowKit Go.Proofs.Ytghiklaeenhljaa.Kit Go.Proofs.Ytghiklaeenhljaa.It Go.Proofs.Ytghiklaeenhljaa.Hea Go.Proofs.Ytghiklaeenhljaa.AgP Go.Proofs.YtghiklaeenhljaaW.PrintWords Go.Proofs.Ytghiklaeenhljaa
set_option linter.unusedVariables false
set_option linter.unusedSimpArgs false

set_option maxRecDepth 100000 in
set_option maxHeartbeats 4000000 in
theorem is_calls {w : World} {p : Nat} {F : Nat → Prop} {c : Cf} {q : ByteArray → Option Ho} {L : List (Ev ByteArray)} {t u : Nat} {ep : Int} {A : Option Addr} {cA : Nat} {l : List Oe} {B : Option Addr} {cB : Nat} (h : Bo w p F c q L t u ep A cA l B cB) (hu : u ≤ 80000) (hl : l.length ≤ 1000) :
    Calls Try.prog 24 #[.pointer (some ⟨p, 0, none⟩), .agg #[.int .i64 c.every, .int .i64 c.wait, .int .i64 c.rise, .int .i64 c.fall, .slice A l.length cA, .slice B L.length cB, .int .i64 ep]] w fun e w' => e = .returned (.bool true) ∧ Step (fun _ => False) w w' := by
  have HVW := Lib.hid (fun w' (hs : Step (fun _ => False) w w') => views_calls (h.her.same hs) hu h.nms)
  have HFI := Lib.hid (fun w' (hs : Step (fun _ => False) w w') => Hea.first_calls (h.her.same hs) hu)
  have HEP := Lib.hid (fun w' (hs : Step (fun _ => False) w w') => epoch_calls (h.her.same hs))
  have HUP := Lib.hid (fun w' (hs : Step (fun _ => False) w w') s (hss : s.size ≤ 1000) => up_calls (h.her.same hs) (s := s) hss)
  have HWA := Lib.hid (fun w' (hs : Step (fun _ => False) w w') s (hss : s.size ≤ 1000) => waits_calls (h.her.same hs) (s := s) hss)
  have HRO := Lib.hid h.ro
  have HRI := Lib.hid h.ri
  have HMT := Lib.hid h.mt
  have HNM := Lib.hid h.nms
  have hnn : (((l.length : Nat) : Int) != (l.length : Int)) = false := by simp
  have hee : (ep != ep) = false := by simp
  obtain ⟨c0, c1, c2, c3⟩ := c
  simp only
  obtain ⟨n, hn⟩ : ∃ n, l.length = n := ⟨_, rfl⟩
  have HN := Lib.hid hn
  rw [hn] at hnn hl HRO ⊢
  clear h hn
  go_enter Try.func24, Try.ntmps24
  go_upto_region 1 with (fail)
  refine alloc_next (cs := [.int .i64 c0, .int .i64 c1, .int .i64 c2, .int .i64 c3, .slice A n cA, .slice B L.length cB, .int .i64 ep]) ?_
  intro w1 hX hs1
  obtain ⟨xb, hxb⟩ : ∃ xb, w.heap.size = xb := ⟨_, rfl⟩
  rw [hxb] at hX ⊢
  have HXB := Lib.hid hxb
  clear hxb
  go_upto_region 2 with (go_at_call 19; refine (HVW.out _ hs1).mono ?_; rintro e2 w2 ⟨V, cV, l', rfl, hNl, hV, hVf, hs2, hlb⟩)
  obtain rfl := names_eq hNl HMT.out.names (fun s => rfl)
  rw [List.length_map, HN.out] at hV hlb ⊢
  have hst2 := hs1.same hs2
  have hX2 := hX.keep hs2 (fun h => h)
  have HV := Lib.hid hV
  clear hX hs1 hs2 hV hNl hVf HVW
  have HST := Lib.hid (fun w' (hs : Step (fun _ => False) w2 w') => hst2.same hs)
  have HXX := Lib.hid (fun w' (hs : Step (fun _ => False) w2 w') => hX2.keep hs (fun h => h))
  have hEP2 := Lib.hid (HEP.out w2.drew (hst2.same ((Step.refl _ _).drew)))
  have x4 := hX2.cell (i := 4) rfl
  have x5 := hX2.cell (i := 5) rfl
  have x6 := hX2.cell (i := 6) rfl
  clear hX2
  have hfin : ∀ (K : Prop), (∀ (r : Int × Bool), AgStr.firstL L = r → (r.2 = decide (0 < L.length)) → (∀ g o, B = some ⟨g, o, none⟩ → 0 < L.length → w2.cell? ⟨g, o + 1, none⟩ = some (.int .i64 r.1)) → K) → K := fun K k => by
    refine k _ rfl ?_ ?_
    · unfold AgStr.firstL
      cases L <;> simp
    · intro g o hB h0
      subst hB
      cases L with
      | nil => simp at h0
      | cons s r =>
        have hR := HRI.out.same hst2
        have := RSeg.cell' hR (itcs_at (j := 0) (e := ⟨s.key, s.tm⟩) rfl).2
        simpa [AgStr.firstL] using this
  apply hfin
  rintro ⟨r1, r2⟩ hr hr2 hrc
  rw [hr] at HFI
  simp only at hr2 hrc
  clear hr hfin
  go_upto_region 3 with (go_at_call 9; refine (HFI.out _ hst2).mono ?_; rintro e3 w3 ⟨rfl, rfl⟩)
  have hq2 : Step (fun _ => False) w2 w2.drew := (Step.refl _ _).drew
  have HLOOP : True := trivial
  by_cases h0 : 0 < L.length
  · obtain ⟨g, o, rfl⟩ := RSeg.isSome HRI.out (by omega) h0
    have b1 := hrc g o rfl h0
    have hgt : ((L.length : Int) > 0) := by omega
    have hr2' : r2 = true := by rw [hr2]; simp [h0]
    subst hr2'
    clear hrc hr2
    have hrr : (r1 != r1) = false := by simp
    go_quiet (first | (go_at_call 15; exact Calls.quiet_of_same ((HEP.out _ (hst2.drewN _)).mono fun e w' h => ⟨h.1, h.2.symm⟩)))
    have hqX : Step (fun _ => False) w2 (w2.drewN nq) := (Step.refl _ _).drewN _
    generalize (w2.drewN nq) = WW at *
    have hstX : Step (fun _ => False) w WW := HST.out _ hqX
    clear x4 x5 x6 hq2 hst2
    have x4 := (HXX.out _ hqX).cell (i := 4) rfl
    go_wp2
    clear x4
    go_loopw [55] (fun v55 wr => ∃ (i : Nat), v55 = .int .i64 (i : Int) ∧ i ≤ n ∧ Step (fun _ => False) w2 wr) (fun v _ => n - (intOf v).toNat)
    case atStart => exact ⟨0, rfl, Nat.zero_le _, hqX⟩
    case round =>
      clear hqX hstX
      obtain ⟨i, rfl, hi, hst⟩ := hrel
      by_cases hin : i < n
      · have hin' : ((i : Int) < (n : Int)) := by omega
        have hstw := HST.out _ hst
        obtain ⟨gA, oA, rfl⟩ := RSeg.isSome HRO.out (by omega) (by omega)
        obtain ⟨gV, rfl⟩ := FSeg.isSome HV.out (by omega)
        obtain ⟨x, hx⟩ : ∃ x, l[i]? = some x := ⟨_, List.getElem?_eq_getElem (by rw [HN.out]; exact hin)⟩
        have hqx := mt_at HMT.out hx
        have hsz := HNM.out x.nm (by rw [hqx]; rfl)
        have hup : upV q x.nm = [.string x.nm, .bool x.pb.up, .int .i64 x.pb.since] := by unfold upV; rw [hqx]
        have hxn : (l.map (·.nm))[i]? = some x.nm := by rw [List.getElem?_map, hx]; rfl
        obtain ⟨a0, a1, a2, a3, a4, a5⟩ := (HRO.out.same hstw).cells hx
        have hVr := HV.out.keep hst (fun _ _ h => h)
        have HU := Lib.hid (HUP.out)
        have HW := Lib.hid (HWA.out)
        have v0 := FSeg.cell hVr (viewsC_get hxn 0 (.string x.nm) (by rw [hup]; rfl))
        have v1 := FSeg.cell hVr (viewsC_get hxn 1 (.bool x.pb.up) (by rw [hup]; rfl))
        have v2 := FSeg.cell hVr (viewsC_get hxn 2 (.int .i64 x.pb.since) (by rw [hup]; rfl))
        have HVV := Lib.hid (fun w' (hs : Step (fun _ => False) wr w') => (⟨FSeg.cell (hVr.keep hs (fun _ _ h => h)) (viewsC_get hxn 0 (.string x.nm) (by rw [hup]; rfl)), FSeg.cell (hVr.keep hs (fun _ _ h => h)) (viewsC_get hxn 1 (.bool x.pb.up) (by rw [hup]; rfl)), FSeg.cell (hVr.keep hs (fun _ _ h => h)) (viewsC_get hxn 2 (.int .i64 x.pb.since) (by rw [hup]; rfl))⟩ : w'.cell? ⟨gV, i * 3 + 0, none⟩ = some (.string x.nm) ∧ w'.cell? ⟨gV, i * 3 + 1, none⟩ = some (.bool x.pb.up) ∧ w'.cell? ⟨gV, i * 3 + 2, none⟩ = some (.int .i64 x.pb.since)))
        have HU1 := Lib.hid (fun w' (hs : Step (fun _ => False) w w') => HUP.out w' hs x.nm hsz)
        have HW1 := Lib.hid (fun w' (hs : Step (fun _ => False) w w') => HWA.out w' hs x.nm hsz)
        simp only [hup, hqx, Option.isSome_some, Option.getD_some] at HU1 HW1
        obtain ⟨x0, ⟨x1, x2, x3, x4⟩, x5⟩ := x
        simp only at a0 a1 a2 a3 a4 a5 HU1 HW1 HVV
        clear v0 v1 v2 HU HW hVr hup hqx hxn hx hsz
        go_upto_region 8 with (fail)
        refine alloc_next (cs := [.string x0, .bool x1, .int .i64 x2, .int .i64 x3, .int .i64 x4, .bool x5]) ?_
        intro w5 hO hs5
        have hst5 := hst.same hs5
        obtain ⟨ob, hob⟩ : ∃ ob, wr.heap.size = ob := ⟨_, rfl⟩
        rw [hob] at hO ⊢
        have o0 := hO.cell (i := 0) rfl
        clear hob a0 a1 a2 a3 a4 a5
        have HU5 := Lib.hid (HU1.out w5 (HST.out _ hst5))
        go_upto_region 9 with (go_at_call 13; refine HU5.out.mono ?_; rintro e6 w6 ⟨rfl, hs6⟩)
        refine alloc_next (cs := [.string x0, .bool x1, .int .i64 x4]) ?_
        intro w7 hY hs7
        have hst7 := (hst5.same hs6).same hs7
        have hO7 := (hO.keep hs6 (fun h => h)).keep hs7 (fun h => h)
        have hwr7 : Step (fun _ => False) wr w7 := (hs5.same hs6).same hs7
        obtain ⟨v0, v1, v2⟩ := HVV.out _ hwr7
        rw [Nat.add_zero] at v0
        generalize w6.heap.size = yb at *
        clear o0 HU5 hO hs5 hs6 hs7 hwr7
        have o0 := hO7.cell (i := 0) rfl
        have o1 := hO7.cell (i := 1) rfl
        have o4 := hO7.cell (i := 4) rfl
        have o5 := hO7.cell (i := 5) rfl
        have u0 := hY.cell (i := 0) rfl
        have u1 := hY.cell (i := 1) rfl
        have u2 := hY.cell (i := 2) rfl
        have hne := neqV x0 x1 x4
        have hww : (x5 != x5) = false := by cases x5 <;> rfl
        have hst7w := HST.out _ hst7
        clear hO7 hY
        go_quiet (first | (go_at_call 11; exact Calls.quiet_of_same ((HW1.out _ (hst7w.drewN _)).mono fun e w' h => ⟨h.1, h.2.symm⟩)))
        go_wp2
        go_roundw
        case rel => exact ⟨i + 1, by go_num, by omega, by first | exact hst7.drewN _ | exact hst7.drew | exact hst7⟩
        case measure => simp [intOf]; omega
      · have hin' : ¬ ((i : Int) < (n : Int)) := by omega
        have hfin := HST.out _ hst
        go_wp2
        go_ret
        exact ⟨rfl, hfin⟩
  · obtain rfl : L = [] := List.eq_nil_of_length_eq_zero (by omega)
    have hr2' : r2 = false := by rw [hr2]; simp
    subst hr2'
    simp only [List.length_nil] at x5 ⊢
    have hnf : (false != false) = false := rfl
    clear hrc hr2 h0
    have HS3 := Lib.hid (fun w' (hs : Step (fun _ => False) w2 w') => (⟨(HXX.out _ hs).cell (i := 4) rfl, (HXX.out _ hs).cell (i := 5) rfl, (HXX.out _ hs).cell (i := 6) rfl⟩ : w'.cell? ⟨xb, 4, none⟩ = some (.slice A n cA) ∧ w'.cell? ⟨xb, 5, none⟩ = some (.slice B 0 cB) ∧ w'.cell? ⟨xb, 6, none⟩ = some (.int .i64 ep)))
    clear x4 x5 x6
    refine wp_region_held_drew (S := fun w' => w'.cell? ⟨xb, 4, none⟩ = some (.slice A n cA) ∧ w'.cell? ⟨xb, 5, none⟩ = some (.slice B 0 cB) ∧ w'.cell? ⟨xb, 6, none⟩ = some (.int .i64 ep)) (by kernel_rfl) (HS3.out _ hq2) (fun hHeld => ?_)
    refine wpAnyH_take (i := 0) (v := ?_) rfl (by kernel_rfl) (by kernel_rfl) (by kernel_rfl) (fun _ _ _ h => h) (Or.inl ⟨by rfl, ?_⟩) (by assumption) ?_
    rotate_left
    · intro w hSw; (try dsimp only at hSw); go_simp; try with_reducible rfl
    simp only [Act.put, List.getElem_toArray, List.getElem_cons_zero, List.getElem_cons_succ, List.setIfInBounds_toArray, List.set_cons_zero, List.set_cons_succ]
    refine wpAnyH_take (i := 1) (v := ?_) rfl (by kernel_rfl) (by kernel_rfl) (by kernel_rfl) (fun _ _ _ h => h) (Or.inl ⟨by rfl, ?_⟩) (by assumption) ?_
    rotate_left
    · intro w hSw; (try dsimp only at hSw); go_simp; try with_reducible rfl
    simp only [Act.put, List.getElem_toArray, List.getElem_cons_zero, List.getElem_cons_succ, List.setIfInBounds_toArray, List.set_cons_zero, List.set_cons_succ]
    refine wpAnyH_take (i := 2) (v := ?_) rfl (by kernel_rfl) (by kernel_rfl) (by kernel_rfl) (fun _ _ _ h => h) (Or.inl ⟨by rfl, ?_⟩) (by assumption) ?_
    rotate_left
    · intro w hSw; (try dsimp only at hSw); go_simp; try with_reducible rfl
    simp only [Act.put, List.getElem_toArray, List.getElem_cons_zero, List.getElem_cons_succ, List.setIfInBounds_toArray, List.set_cons_zero, List.set_cons_succ]
    refine wpAnyH_take (i := 3) (v := ?_) rfl (by kernel_rfl) (by kernel_rfl) (by kernel_rfl) (fun _ _ _ h => h) (Or.inl ⟨by rfl, ?_⟩) (by assumption) ?_
    rotate_left
    · intro w hSw; (try dsimp only at hSw); go_simp; try with_reducible rfl
    simp only [Act.put, List.getElem_toArray, List.getElem_cons_zero, List.getElem_cons_succ, List.setIfInBounds_toArray, List.set_cons_zero, List.set_cons_succ]
    refine wpAnyH_take (i := 4) (v := ?_) rfl (by kernel_rfl) (by kernel_rfl) (by kernel_rfl) (fun _ _ _ h => h) (Or.inl ⟨by rfl, ?_⟩) (by assumption) ?_
    rotate_left
    · intro w hSw; (try dsimp only at hSw); go_simp; try with_reducible rfl
    simp only [Act.put, List.getElem_toArray, List.getElem_cons_zero, List.getElem_cons_succ, List.setIfInBounds_toArray, List.set_cons_zero, List.set_cons_succ]
    refine wpAnyH_take (i := 5) (v := ?_) rfl (by kernel_rfl) (by kernel_rfl) (by kernel_rfl) (fun _ _ _ h => h) (Or.inl ⟨by rfl, ?_⟩) (by assumption) ?_
    rotate_left
    · intro w hSw; (try dsimp only at hSw); go_simp; try with_reducible rfl
    simp only [Act.put, List.getElem_toArray, List.getElem_cons_zero, List.getElem_cons_succ, List.setIfInBounds_toArray, List.set_cons_zero, List.set_cons_succ]
    refine wpAnyH_take (i := 6) (v := ?_) rfl (by kernel_rfl) (by kernel_rfl) (by kernel_rfl) (fun _ _ _ h => h) (Or.inl ⟨by rfl, ?_⟩) (by assumption) ?_
    rotate_left
    · intro w hSw; (try dsimp only at hSw); go_simp; try with_reducible rfl
    simp only [Act.put, List.getElem_toArray, List.getElem_cons_zero, List.getElem_cons_succ, List.setIfInBounds_toArray, List.set_cons_zero, List.set_cons_succ]
    refine wpAnyH_take (i := 7) (v := ?_) rfl (by kernel_rfl) (by kernel_rfl) (by kernel_rfl) (fun _ _ _ h => h) (Or.inl ⟨by rfl, ?_⟩) (by assumption) ?_
    rotate_left
    · intro w hSw; (try dsimp only at hSw); go_simp; try with_reducible rfl
    simp only [Act.put, List.getElem_toArray, List.getElem_cons_zero, List.getElem_cons_succ, List.setIfInBounds_toArray, List.set_cons_zero, List.set_cons_succ]
    refine wpAnyH_take (i := 9) (v := ?_) rfl (by kernel_rfl) (by kernel_rfl) (by kernel_rfl) (fun _ _ _ h => h) (Or.inl ⟨by rfl, ?_⟩) (by assumption) ?_
    rotate_left
    · intro w hSw; (try dsimp only at hSw); go_simp; try with_reducible rfl
    simp only [Act.put, List.getElem_toArray, List.getElem_cons_zero, List.getElem_cons_succ, List.setIfInBounds_toArray, List.set_cons_zero, List.set_cons_succ]
    refine wpAnyH_take (i := 10) (v := ?_) rfl (by kernel_rfl) (by kernel_rfl) (by kernel_rfl) (fun _ _ _ h => h) (Or.inl ⟨by rfl, ?_⟩) (by assumption) ?_
    rotate_left
    · intro w hSw; (try dsimp only at hSw); go_simp; try with_reducible rfl
    simp only [Act.put, List.getElem_toArray, List.getElem_cons_zero, List.getElem_cons_succ, List.setIfInBounds_toArray, List.set_cons_zero, List.set_cons_succ]
    refine wpAnyH_ready (rs := [8]) (by kernel_rfl) (by simp) ?_
    refine AllReadyH.cons rfl (fun K hK => ?_) AllReadyH.nil
    go_simp
    go_at_call 15
    refine (HEP.out _ (HST.out _ hq2)).mono ?_
    rintro e5 w5 ⟨rfl, rfl⟩
    dsimp only
    refine hK.out _ _ (HS3.out _ hq2) (fun hHeld => ?_)
    clear hK K
    try simp only [Act.put, List.getElem_toArray, List.getElem_cons_zero, List.getElem_cons_succ, List.setIfInBounds_toArray, List.set_cons_zero, List.set_cons_succ]
    refine wpAnyH_take (i := 11) (v := ?_) rfl (by kernel_rfl) (by kernel_rfl) (by kernel_rfl) (fun _ _ _ h => h) (Or.inl ⟨by rfl, ?_⟩) (by assumption) ?_
    rotate_left
    · intro w hSw; (try dsimp only at hSw); go_simp; try with_reducible rfl
    simp only [Act.put, List.getElem_toArray, List.getElem_cons_zero, List.getElem_cons_succ, List.setIfInBounds_toArray, List.set_cons_zero, List.set_cons_succ]
    refine wpAnyH_take (i := 12) (v := ?_) rfl (by kernel_rfl) (by kernel_rfl) (by kernel_rfl) (fun _ _ _ h => h) (Or.inl ⟨by rfl, ?_⟩) (by assumption) ?_
    rotate_left
    · intro w hSw; (try dsimp only at hSw); go_simp; try with_reducible rfl
    simp only [Act.put, List.getElem_toArray, List.getElem_cons_zero, List.getElem_cons_succ, List.setIfInBounds_toArray, List.set_cons_zero, List.set_cons_succ]
    refine wpAnyH_take (i := 13) (v := ?_) rfl (by kernel_rfl) (by kernel_rfl) (by kernel_rfl) (fun _ _ _ h => h) (Or.inl ⟨by rfl, ?_⟩) (by assumption) ?_
    rotate_left
    · intro w hSw; (try dsimp only at hSw); go_simp; try with_reducible rfl
    simp only [Act.put, List.getElem_toArray, List.getElem_cons_zero, List.getElem_cons_succ, List.setIfInBounds_toArray, List.set_cons_zero, List.set_cons_succ]
    refine wpAnyH_take (i := 14) (v := ?_) rfl (by kernel_rfl) (by kernel_rfl) (by kernel_rfl) (fun _ _ _ h => h) (Or.inl ⟨by rfl, ?_⟩) (by assumption) ?_
    rotate_left
    · intro w hSw; (try dsimp only at hSw); go_simp; try with_reducible rfl
    simp only [Act.put, List.getElem_toArray, List.getElem_cons_zero, List.getElem_cons_succ, List.setIfInBounds_toArray, List.set_cons_zero, List.set_cons_succ]
    refine wpAnyH_take (i := 15) (v := ?_) rfl (by kernel_rfl) (by kernel_rfl) (by kernel_rfl) (fun _ _ _ h => h) (Or.inl ⟨by rfl, ?_⟩) (by assumption) ?_
    rotate_left
    · intro w hSw; (try dsimp only at hSw); go_simp; try with_reducible rfl
    simp only [Act.put, List.getElem_toArray, List.getElem_cons_zero, List.getElem_cons_succ, List.setIfInBounds_toArray, List.set_cons_zero, List.set_cons_succ]
    refine wpAnyH_take (i := 16) (v := ?_) rfl (by kernel_rfl) (by kernel_rfl) (by kernel_rfl) (fun _ _ _ h => h) (Or.inl ⟨by rfl, ?_⟩) (by assumption) ?_
    rotate_left
    · intro w hSw; (try dsimp only at hSw); go_simp; try with_reducible rfl
    simp only [Act.put, List.getElem_toArray, List.getElem_cons_zero, List.getElem_cons_succ, List.setIfInBounds_toArray, List.set_cons_zero, List.set_cons_succ]
    refine wpAnyH_take (i := 17) (v := ?_) rfl (by kernel_rfl) (by kernel_rfl) (by kernel_rfl) (fun _ _ _ h => h) (Or.inl ⟨by rfl, ?_⟩) (by assumption) ?_
    rotate_left
    · intro w hSw; (try dsimp only at hSw); go_simp; try with_reducible rfl
    simp only [Act.put, List.getElem_toArray, List.getElem_cons_zero, List.getElem_cons_succ, List.setIfInBounds_toArray, List.set_cons_zero, List.set_cons_succ]
    refine wpAnyH_take (i := 18) (v := ?_) rfl (by kernel_rfl) (by kernel_rfl) (by kernel_rfl) (fun _ _ _ h => h) (Or.inl ⟨by rfl, ?_⟩) (by assumption) ?_
    rotate_left
    · intro w hSw; (try dsimp only at hSw); go_simp; try with_reducible rfl
    simp only [Act.put, List.getElem_toArray, List.getElem_cons_zero, List.getElem_cons_succ, List.setIfInBounds_toArray, List.set_cons_zero, List.set_cons_succ]
    refine wpAnyH_take (i := 19) (v := ?_) rfl (by kernel_rfl) (by kernel_rfl) (by kernel_rfl) (fun _ _ _ h => h) (Or.inl ⟨by rfl, ?_⟩) (by assumption) ?_
    rotate_left
    · intro w hSw; (try dsimp only at hSw); go_simp; try with_reducible rfl
    simp only [Act.put, List.getElem_toArray, List.getElem_cons_zero, List.getElem_cons_succ, List.setIfInBounds_toArray, List.set_cons_zero, List.set_cons_succ]
    refine wpAnyH_take (i := 20) (v := ?_) rfl (by kernel_rfl) (by kernel_rfl) (by kernel_rfl) (fun _ _ _ h => h) (Or.inl ⟨by rfl, ?_⟩) (by assumption) ?_
    rotate_left
    · intro w hSw; (try dsimp only at hSw); go_simp; try with_reducible rfl
    simp only [Act.put, List.getElem_toArray, List.getElem_cons_zero, List.getElem_cons_succ, List.setIfInBounds_toArray, List.set_cons_zero, List.set_cons_succ]
    refine wpAnyH_take (i := 21) (v := ?_) rfl (by kernel_rfl) (by kernel_rfl) (by kernel_rfl) (fun _ _ _ h => h) (Or.inl ⟨by rfl, ?_⟩) (by assumption) ?_
    rotate_left
    · intro w hSw; (try dsimp only at hSw); go_simp; try with_reducible rfl
    simp only [Act.put, List.getElem_toArray, List.getElem_cons_zero, List.getElem_cons_succ, List.setIfInBounds_toArray, List.set_cons_zero, List.set_cons_succ]
    refine wpAnyH_take (i := 22) (v := ?_) rfl (by kernel_rfl) (by kernel_rfl) (by kernel_rfl) (fun _ _ _ h => h) (Or.inl ⟨by rfl, ?_⟩) (by assumption) ?_
    rotate_left
    · intro w hSw; (try dsimp only at hSw); go_simp; try with_reducible rfl
    simp only [Act.put, List.getElem_toArray, List.getElem_cons_zero, List.getElem_cons_succ, List.setIfInBounds_toArray, List.set_cons_zero, List.set_cons_succ]
    refine wpAnyH_take (i := 23) (v := ?_) rfl (by kernel_rfl) (by kernel_rfl) (by kernel_rfl) (fun _ _ _ h => h) (Or.inl ⟨by rfl, ?_⟩) (by assumption) ?_
    rotate_left
    · intro w hSw; (try dsimp only at hSw); go_simp; try with_reducible rfl
    simp only [Act.put, List.getElem_toArray, List.getElem_cons_zero, List.getElem_cons_succ, List.setIfInBounds_toArray, List.set_cons_zero, List.set_cons_succ]
    refine wpAnyH_take (i := 24) (v := undef) rfl (by kernel_rfl) (by kernel_rfl) (by kernel_rfl) (fun _ _ _ h => h) (Or.inr ⟨by rfl, rfl⟩) (by assumption) ?_
    simp only [Act.put, List.getElem_toArray, List.getElem_cons_zero, List.getElem_cons_succ, List.setIfInBounds_toArray, List.set_cons_zero, List.set_cons_succ]
    refine wpAnyH_take (i := 25) (v := undef) rfl (by kernel_rfl) (by kernel_rfl) (by kernel_rfl) (fun _ _ _ h => h) (Or.inr ⟨by rfl, rfl⟩) (by assumption) ?_
    simp only [Act.put, List.getElem_toArray, List.getElem_cons_zero, List.getElem_cons_succ, List.setIfInBounds_toArray, List.set_cons_zero, List.set_cons_succ]
    refine wpAnyH_take (i := 26) (v := undef) rfl (by kernel_rfl) (by kernel_rfl) (by kernel_rfl) (fun _ _ _ h => h) (Or.inr ⟨by rfl, rfl⟩) (by assumption) ?_
    simp only [Act.put, List.getElem_toArray, List.getElem_cons_zero, List.getElem_cons_succ, List.setIfInBounds_toArray, List.set_cons_zero, List.set_cons_succ]
    refine wpAnyH_take (i := 27) (v := undef) rfl (by kernel_rfl) (by kernel_rfl) (by kernel_rfl) (fun _ _ _ h => h) (Or.inr ⟨by rfl, rfl⟩) (by assumption) ?_
    simp only [Act.put, List.getElem_toArray, List.getElem_cons_zero, List.getElem_cons_succ, List.setIfInBounds_toArray, List.set_cons_zero, List.set_cons_succ]
    refine wpAnyH_take (i := 28) (v := undef) rfl (by kernel_rfl) (by kernel_rfl) (by kernel_rfl) (fun _ _ _ h => h) (Or.inr ⟨by rfl, rfl⟩) (by assumption) ?_
    simp only [Act.put, List.getElem_toArray, List.getElem_cons_zero, List.getElem_cons_succ, List.setIfInBounds_toArray, List.set_cons_zero, List.set_cons_succ]
    refine wpAnyH_take (i := 29) (v := undef) rfl (by kernel_rfl) (by kernel_rfl) (by kernel_rfl) (fun _ _ _ h => h) (Or.inr ⟨by rfl, rfl⟩) (by assumption) ?_
    simp only [Act.put, List.getElem_toArray, List.getElem_cons_zero, List.getElem_cons_succ, List.setIfInBounds_toArray, List.set_cons_zero, List.set_cons_succ]
    refine wpAnyH_take (i := 30) (v := undef) rfl (by kernel_rfl) (by kernel_rfl) (by kernel_rfl) (fun _ _ _ h => h) (Or.inr ⟨by rfl, rfl⟩) (by assumption) ?_
    simp only [Act.put, List.getElem_toArray, List.getElem_cons_zero, List.getElem_cons_succ, List.setIfInBounds_toArray, List.set_cons_zero, List.set_cons_succ]
    refine wpAnyH_take (i := 31) (v := ?_) rfl (by kernel_rfl) (by kernel_rfl) (by kernel_rfl) (fun _ _ _ h => h) (Or.inl ⟨by rfl, ?_⟩) (by assumption) ?_
    rotate_left
    · intro w hSw; (try dsimp only at hSw); go_simp; try with_reducible rfl
    simp only [Act.put, List.getElem_toArray, List.getElem_cons_zero, List.getElem_cons_succ, List.setIfInBounds_toArray, List.set_cons_zero, List.set_cons_succ]
    refine wpAnyH_take (i := 32) (v := ?_) rfl (by kernel_rfl) (by kernel_rfl) (by kernel_rfl) (fun _ _ _ h => h) (Or.inl ⟨by rfl, ?_⟩) (by assumption) ?_
    rotate_left
    · intro w hSw; (try dsimp only at hSw); go_simp; try with_reducible rfl
    simp only [Act.put, List.getElem_toArray, List.getElem_cons_zero, List.getElem_cons_succ, List.setIfInBounds_toArray, List.set_cons_zero, List.set_cons_succ]
    refine wpAnyH_done (by kernel_rfl) ?_ _
    clear hHeld
    have hqX : Step (fun _ => False) w2 w2.drew := hq2
    generalize w2.drew = WW at *
    have x4 : True := trivial
    have x5 : True := trivial
    have x6 : True := trivial
    have hstX : Step (fun _ => False) w WW := HST.out _ hqX
    clear x4 x5 x6 hq2 hst2
    have x4 := (HXX.out _ hqX).cell (i := 4) rfl
    go_wp2
    clear x4
    go_loopw [55] (fun v55 wr => ∃ (i : Nat), v55 = .int .i64 (i : Int) ∧ i ≤ n ∧ Step (fun _ => False) w2 wr) (fun v _ => n - (intOf v).toNat)
    case atStart => exact ⟨0, rfl, Nat.zero_le _, hqX⟩
    case round =>
      clear hqX hstX
      obtain ⟨i, rfl, hi, hst⟩ := hrel
      by_cases hin : i < n
      · have hin' : ((i : Int) < (n : Int)) := by omega
        have hstw := HST.out _ hst
        obtain ⟨gA, oA, rfl⟩ := RSeg.isSome HRO.out (by omega) (by omega)
        obtain ⟨gV, rfl⟩ := FSeg.isSome HV.out (by omega)
        obtain ⟨x, hx⟩ : ∃ x, l[i]? = some x := ⟨_, List.getElem?_eq_getElem (by rw [HN.out]; exact hin)⟩
        have hqx := mt_at HMT.out hx
        have hsz := HNM.out x.nm (by rw [hqx]; rfl)
        have hup : upV q x.nm = [.string x.nm, .bool x.pb.up, .int .i64 x.pb.since] := by unfold upV; rw [hqx]
        have hxn : (l.map (·.nm))[i]? = some x.nm := by rw [List.getElem?_map, hx]; rfl
        obtain ⟨a0, a1, a2, a3, a4, a5⟩ := (HRO.out.same hstw).cells hx
        have hVr := HV.out.keep hst (fun _ _ h => h)
        have HU := Lib.hid (HUP.out)
        have HW := Lib.hid (HWA.out)
        have v0 := FSeg.cell hVr (viewsC_get hxn 0 (.string x.nm) (by rw [hup]; rfl))
        have v1 := FSeg.cell hVr (viewsC_get hxn 1 (.bool x.pb.up) (by rw [hup]; rfl))
        have v2 := FSeg.cell hVr (viewsC_get hxn 2 (.int .i64 x.pb.since) (by rw [hup]; rfl))
        have HVV := Lib.hid (fun w' (hs : Step (fun _ => False) wr w') => (⟨FSeg.cell (hVr.keep hs (fun _ _ h => h)) (viewsC_get hxn 0 (.string x.nm) (by rw [hup]; rfl)), FSeg.cell (hVr.keep hs (fun _ _ h => h)) (viewsC_get hxn 1 (.bool x.pb.up) (by rw [hup]; rfl)), FSeg.cell (hVr.keep hs (fun _ _ h => h)) (viewsC_get hxn 2 (.int .i64 x.pb.since) (by rw [hup]; rfl))⟩ : w'.cell? ⟨gV, i * 3 + 0, none⟩ = some (.string x.nm) ∧ w'.cell? ⟨gV, i * 3 + 1, none⟩ = some (.bool x.pb.up) ∧ w'.cell? ⟨gV, i * 3 + 2, none⟩ = some (.int .i64 x.pb.since)))
        have HU1 := Lib.hid (fun w' (hs : Step (fun _ => False) w w') => HUP.out w' hs x.nm hsz)
        have HW1 := Lib.hid (fun w' (hs : Step (fun _ => False) w w') => HWA.out w' hs x.nm hsz)
        simp only [hup, hqx, Option.isSome_some, Option.getD_some] at HU1 HW1
        obtain ⟨x0, ⟨x1, x2, x3, x4⟩, x5⟩ := x
        simp only at a0 a1 a2 a3 a4 a5 HU1 HW1 HVV
        clear v0 v1 v2 HU HW hVr hup hqx hxn hx hsz
        go_upto_region 8 with (fail)
        refine alloc_next (cs := [.string x0, .bool x1, .int .i64 x2, .int .i64 x3, .int .i64 x4, .bool x5]) ?_
        intro w5 hO hs5
        have hst5 := hst.same hs5
        obtain ⟨ob, hob⟩ : ∃ ob, wr.heap.size = ob := ⟨_, rfl⟩
        rw [hob] at hO ⊢
        have o0 := hO.cell (i := 0) rfl
        clear hob a0 a1 a2 a3 a4 a5
        have HU5 := Lib.hid (HU1.out w5 (HST.out _ hst5))
        go_upto_region 9 with (go_at_call 13; refine HU5.out.mono ?_; rintro e6 w6 ⟨rfl, hs6⟩)
        refine alloc_next (cs := [.string x0, .bool x1, .int .i64 x4]) ?_
        intro w7 hY hs7
        have hst7 := (hst5.same hs6).same hs7
        have hO7 := (hO.keep hs6 (fun h => h)).keep hs7 (fun h => h)
        have hwr7 : Step (fun _ => False) wr w7 := (hs5.same hs6).same hs7
        obtain ⟨v0, v1, v2⟩ := HVV.out _ hwr7
        rw [Nat.add_zero] at v0
        generalize w6.heap.size = yb at *
        clear o0 HU5 hO hs5 hs6 hs7 hwr7
        have o0 := hO7.cell (i := 0) rfl
        have o1 := hO7.cell (i := 1) rfl
        have o4 := hO7.cell (i := 4) rfl
        have o5 := hO7.cell (i := 5) rfl
        have u0 := hY.cell (i := 0) rfl
        have u1 := hY.cell (i := 1) rfl
        have u2 := hY.cell (i := 2) rfl
        have hne := neqV x0 x1 x4
        have hww : (x5 != x5) = false := by cases x5 <;> rfl
        have hst7w := HST.out _ hst7
        clear hO7 hY
        go_quiet (first | (go_at_call 11; exact Calls.quiet_of_same ((HW1.out _ (hst7w.drewN _)).mono fun e w' h => ⟨h.1, h.2.symm⟩)))
        go_wp2
        go_roundw
        case rel => exact ⟨i + 1, by go_num, by omega, by first | exact hst7.drewN _ | exact hst7.drew | exact hst7⟩
        case measure => simp [intOf]; omega
      · have hin' : ¬ ((i : Int) < (n : Int)) := by omega
        have hfin := HST.out _ hst
        go_wp2
        go_ret
        exact ⟨rfl, hfin⟩
end Go.Proofs.Ytghiklaeenhljaa.HeD
