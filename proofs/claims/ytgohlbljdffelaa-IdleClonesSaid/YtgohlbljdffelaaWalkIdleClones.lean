/- The walk of stewardlaw25.IdleClones. Own work of this seat. -/
import Derived.Test.YtgohlbljdffelaaWalkIdlePlays
import Derived.Test.YtgohlbljdffelaaIdlK
namespace Go.Proofs.Ytgohlbljdffelaa.Idl
open Go.RowKit Go.Proofs.Ytgohlbljdffelaa.Kit Go.Proofs.Ytgohlbljdffelaa.AgP Go.Proofs.Ytgohlbljdffelaa.IntS Go.Proofs.Ytgohlbljdffelaa.Rd Go.Proofs.Ytgohlbljdffelaa.Cut Go.Proofs.YtgohlbljdffelaaW.PrintWords Go.Proofs.Ytgohlbljdffelaa
set_option linter.unusedVariables false
set_option linter.unusedSimpArgs false

theorem PJ.other {w0 w w' : World} {xb p : Nat} {F H : Nat → Prop} {most life : Int} {l : List On} {t : Nat} {B : Option Addr} {c : Nat} (h : PJ w0 w xb p F most life l t B c) (hs : Step H w w') (h1 : ∀ k, F k → ¬ H k) (h2 : ∀ k, blockOf B = some k → ¬ H k) (h3 : ¬ H xb) (hb : Below w0.heap.size w0 w') : PJ w0 w' xb p F most life l t B c :=
  ⟨h.bo.keep hs h1 h2, h.xx.keep hs h3, h.low, h.sep, hb⟩

set_option maxRecDepth 100000 in
set_option maxHeartbeats 4000000 in
theorem clones_calls (A0 : Option Addr) (c0 : Nat) (acts : List Act4) (A1 : Option Addr) (c1 : Nat) (more : List Act4) (start : Int) (w : World) (hr : Kd.C kAct4 w A0 acts.length acts) (hc : acts.length ≤ c0) (hg : ∀ x ∈ acts, AgInt.KOk x.f1 ∧ x.f3.size ≤ 9223372036854775807) (hr1 : Kd.C kAct4 w A1 more.length more) (hc1 : more.length ≤ c1) (hg1 : ∀ x ∈ more, AgInt.KOk x.f1 ∧ x.f3.size ≤ 9223372036854775807) :
    Calls Try.prog 7 #[.slice A0 acts.length c0, .slice A1 more.length c1, .int .i64 start] w fun e w' => e = .returned (.bool true) ∧ Below w.heap.size w w' := by
  have hact := Lib.hid (fun i (hi : i < acts.length) => act_at hr i hi)
  have HG := Lib.hid (fun i (hi : i < acts.length) => hg (acts.getD i zAct4) (by rw [List.getD_eq_getElem?_getD, List.getElem?_eq_getElem hi]; exact List.getElem_mem hi))
  have hmor := Lib.hid (fun i (hi : i < more.length) => act_at hr1 i hi)
  have HG1 := Lib.hid (fun i (hi : i < more.length) => hg1 (more.getD i zAct4) (by rw [List.getD_eq_getElem?_getD, List.getElem?_eq_getElem hi]; exact List.getElem_mem hi))
  clear hr hg hr1 hg1
  generalize acts.length = n at *
  generalize more.length = n1 at *
  have HN := Lib.hid (fun w1 => Idl.new_calls w1 3 20)
  have HRN := Lib.hid (fun w1 => Rd.new_calls w1 3 20)
  rw [show clip1 3 0 1024 = 3 from rfl, show clip1 20 1 1048576 = 20 from rfl] at HN HRN
  go_enter Try.func7, Try.ntmps7
  go_upto_region 4 with (first | (go_at_call 13; refine (awake_calls _).mono ?_; rintro e0 w1 ⟨rfl, hs1⟩) | (go_at_call 14; refine (HN.out _).mono ?_; rintro e1 w2 ⟨p, F, rfl, hI2, hs2, hF2⟩) | (go_at_call 25; refine (HRN.out _).mono ?_; rintro e2 w3 ⟨rfl, hs3⟩))
  refine alloc_next (cs := [.int .i64 3, .int .i64 20, .slice none 0 0]) ?_
  intro w4 hX hs4
  have hJ0 : PJ w w4 w3.heap.size p F 3 20 [] 0 none 0 := by
    have z1 := hs1.size
    have z2 := hs2.size
    have z3 := hs3.size
    have hs34 := hs3.same hs4
    refine ⟨⟨hI2.same hs34, dw_nil _, fun k hk => (by cases hk)⟩, hX, ⟨fun k hk => by have := hF2 k hk; omega, by omega⟩, ⟨fun h => by have := hI2.1 _ h; omega, fun k hk => (by cases hk)⟩, ?_⟩
    exact ((hs1.same hs2).same hs34).below (Nat.le_refl _) (fun _ h => h.elim)
  generalize w3.heap.size = xb at *
  clear hI2 hs1 hs2 hs3 hs4 hF2 HN HRN hX
  go_upto_region 8 with (fail)
  generalize (max 0 (min start 1099511627776) : Int) = nw
  go_wp2
  go_loopw [10, 11] (fun v10 v11 wr => ∃ (i : Nat) (b : Bool) (F : Nat → Prop) (l : List On) (t : Nat) (B : Option Addr) (c : Nat), v11 = .int .i64 (i : Int) ∧ v10 = .bool b ∧ i ≤ 25 ∧ t ≤ i ∧ PJ w wr xb p F 3 20 l t B c) (fun _ v _ => 25 - (intOf v).toNat)
  case atStart => exact ⟨0, false, F, [], 0, none, 0, rfl, rfl, by omega, by omega, hJ0⟩
  case round =>
    clear hJ0 F
    obtain ⟨i, b, F, l, t, B, c, rfl, rfl, hi, hti, hJ⟩ := hrel
    by_cases hgo : i < n ∧ i < 25
    · obtain ⟨hin, hi50⟩ := hgo
      have hin' : ((i : Int) < (n : Int)) := by omega
      have hi50' : ((i : Int) < 25) := by omega
      obtain ⟨ad, ⟨kd, cn, nn, nm⟩, rfl, hxe, hcell⟩ := hact.out i hin
      obtain ⟨hck, hnsz⟩ := HG.out i hin
      rw [← hxe] at hck hnsz
      obtain ⟨a0, a1, a2, a3⟩ := hcell wr hJ.bel
      simp only at a0 a1 a2 a3 hck hnsz
      have x0 := hJ.xx.cell (i := 0) rfl
      have x1 := hJ.xx.cell (i := 1) rfl
      have x2 := hJ.xx.cell (i := 2) rfl
      have HDO := Lib.hid (fun wd (hd : wd = wr.drew) => by subst hd; exact (do_calls (hJ.bo.same ((Step.refl _ _).drew)) (by omega) (by omega) (by omega) kd cn nn nw hck nm hnsz))
      unfold DoP at HDO
      have HJ := Lib.hid hJ
      clear hJ hcell hxe
      obtain ⟨ll, hll⟩ : ∃ ll, l.length = ll := ⟨_, rfl⟩
      rw [hll] at x2 HDO
      go_upto_region 10 with (fail)
      go_region_with (go_at_call 26; refine (HDO.out _ rfl).mono ?_; rintro e3 w3 ⟨F3, l3, t3, B3, c3, rfl, hB3, ht3, hs3', hn3, hA3⟩; have hs3 : Step F wr w3 := ((Step.refl F wr).drew).same hs3'; have hX3 := HJ.out.xx.keep hs3 HJ.out.sep.1; have f0 := hX3.free 0; have f1 := hX3.free 1; have f2 := hX3.free 2; have r0 := hX3.cell (i := 0) rfl; have r1 := hX3.cell (i := 1) rfl; have r2 := hX3.cell (i := 2) rfl)
      all_goals
        obtain ⟨hZ, hsZ⟩ := put3 hX3 (.int .i64 3) (.int .i64 20) (.slice B3 l3.length c3)
        have hJ4 := HJ.out.next hB3 hs3 hn3 hA3 hZ hsZ
        generalize (((w3.setCell ⟨xb, 0, none⟩ (.int .i64 3)).setCell ⟨xb, 1, none⟩ (.int .i64 20)).setCell ⟨xb, 2, none⟩ (.slice B3 l3.length c3)) = w4 at *
        have HJ4 := Lib.hid hJ4
        clear hZ hsZ hJ4 hB3 hs3' hs3 hn3 hA3 hX3 f0 f1 f2 r0 r1 r2 HDO HJ x0 x1 x2 a0 a1 a2 a3
        simp only [Act.put, List.getElem_toArray, List.getElem_cons_zero, List.getElem_cons_succ, List.setIfInBounds_toArray, List.set_cons_zero, List.set_cons_succ]
        go_wp2
        go_roundw
        case rel => exact ⟨i + 1, true, F3, l3, t3, B3, c3, by go_num, rfl, by omega, by omega, HJ4.out⟩
        case measure => simp [intOf]; omega
    · have hends : ¬ i < n ∨ (i < n ∧ ¬ i < 25) := by omega
      have HJ := Lib.hid hJ
      have x0 := hJ.xx.cell (i := 0) rfl
      have x1 := hJ.xx.cell (i := 1) rfl
      have x2 := hJ.xx.cell (i := 2) rfl
      obtain ⟨ll, hll⟩ : ∃ ll, l.length = ll := ⟨_, rfl⟩
      rw [hll] at x2
      have HLL := Lib.hid hll
      clear hJ hact HG hll
      have HCL := Lib.hid (fun w' (hs : Step (fun _ => False) wr w') => Idl.clone_calls (HJ.out.bo.id.same hs) (by omega) rfl rfl)
      obtain ⟨z, hz⟩ : ∃ z, wr.heap.size = z := ⟨_, rfl⟩
      have HZ0 := Lib.hid hz
      clear hz
      have hq0 : Step (fun _ => False) wr wr.drew := (Step.refl _ _).drew
      have hXA := (HJ.out.xx.keep hq0 (fun h => h)).alloc (.cells #[.int .i64 0, .int .i64 0, .slice none 0 0] 57)
      rw [HLL.out] at hXA
      have xa0 := hXA.cell (i := 0) rfl
      have xa1 := hXA.cell (i := 1) rfl
      have xa2 := hXA.cell (i := 2) rfl
      rcases hends with h1 | ⟨h1, h2⟩
      · have q1 : ((i : Int) < (n : Int)) = False := eq_false (by omega)
        go_upto_region 13 with (fail)
        have HSX := Lib.hid (fun w' (hs : Step (fun _ => False) wr w') => (by
          have hX := HJ.out.xx.keep hs (fun h => h)
          rw [HLL.out] at hX
          exact ⟨hX.cell (i := 0) rfl, hX.cell (i := 1) rfl, hX.cell (i := 2) rfl⟩ : w'.cell? ⟨xb, 0, none⟩ = some (.int .i64 3) ∧ w'.cell? ⟨xb, 1, none⟩ = some (.int .i64 20) ∧ w'.cell? ⟨xb, 2, none⟩ = some (.slice B ll c)))
        go_region_held3 (fun w' => w'.cell? ⟨xb, 0, none⟩ = some (.int .i64 3) ∧ w'.cell? ⟨xb, 1, none⟩ = some (.int .i64 20) ∧ w'.cell? ⟨xb, 2, none⟩ = some (.slice B ll c))
          (first
            | exact HSX.out _ hq3
            | exact HSX.out _ hq0
            | exact HSX.out _ (hq0.alloc _)
            | exact HSX.out _ (hq3.alloc _)
            | exact HSX.out _ (((hq3.setCell (fun h => absurd h (by first | exact Nat.lt_irrefl _ | (simp only; omega)))  _).setCell (fun h => absurd h (by first | exact Nat.lt_irrefl _ | (simp only; omega))) _).setCell (fun h => absurd h (by first | exact Nat.lt_irrefl _ | (simp only; omega))) _)
            | exact HSX.out _ ((((hq3.alloc _).setCell (fun h => absurd h (by first | exact Nat.lt_irrefl _ | (simp only; omega)))  _).setCell (fun h => absurd h (by first | exact Nat.lt_irrefl _ | (simp only; omega))) _).setCell (fun h => absurd h (by first | exact Nat.lt_irrefl _ | (simp only; omega))) _)
            | go_keep)
          ((go_at_call 28; refine (HCL.out _ (by first | exact hq0 | exact hq0.alloc _)).mono ?_; rintro e3 w3 ⟨p2, G, rfl, hI3, hs3, hG3⟩; have hq3 : Step (fun _ => False) wr w3 := (by first | exact hq0.same hs3 | exact (hq0.alloc _).same hs3); have hz3 := hq3.size; try (have hY3 := (blk_new wr.drew [.int .i64 0, .int .i64 0, .slice none 0 0] 57).keep hs3 (fun h => h); have hY3' : Blk w3 wr.heap.size 57 [.int .i64 0, .int .i64 0, .slice none 0 0] := hY3; have g0' := hY3'.free 0; have g1' := hY3'.free 1; have g2' := hY3'.free 2; have r0' := hY3'.cell (i := 0) rfl; have r1' := hY3'.cell (i := 1) rfl; have r2' := hY3'.cell (i := 2) rfl)))
        all_goals
          have hzz := HZ0.out
          have hGd : wr.drew.heap.size = wr.heap.size := rfl
          first
          | (go_upto_region 14 with (fail)
             refine alloc_next (cs := [.int .i64 3, .int .i64 20, .slice B ll c]) ?_
             intro w5 hY5 hs5
             have hq5 := hq3.same hs5
             have hI5 := hI3.same hs5
             have hGyb : ¬ G w3.heap.size := fun h => by have := hI3.1 _ h; omega
             have hGz : ∀ k, G k → z ≤ k := fun k hk => by have := hG3 k hk; omega
             have hzy : z ≤ w3.heap.size := by omega
             generalize w3.heap.size = yb at *)
          | (go_upto_region 14 with (fail)
             obtain ⟨hY5, hsZ⟩ := put3 hY3' (.int .i64 3) (.int .i64 20) (.slice B ll c)
             generalize (((w3.setCell ⟨wr.heap.size, 0, none⟩ (.int .i64 3)).setCell ⟨wr.heap.size, 1, none⟩ (.int .i64 20)).setCell ⟨wr.heap.size, 2, none⟩ (.slice B ll c)) = w5 at *
             have hG4 : ∀ k, G k → z + 1 ≤ k := fun k hk => by have h1 := hG3 k hk; have h2 : ∀ o, (wr.alloc o).drew.heap.size = wr.heap.size + 1 := (fun o => by show (wr.heap.push _).size = _; simp); rw [h2] at h1; omega
             have hq5 : Step (fun _ => False) wr w5 := hq3.trans hsZ (fun j hj e => by omega)
             have hI5 := hI3.keep hsZ (fun k hk e => by have := hG4 k hk; omega)
             have hGyb : ¬ G wr.heap.size := fun h => by have := hG4 _ h; omega
             have hGz : ∀ k, G k → z ≤ k := fun k hk => by have := hG4 k hk; omega
             have hzy : z ≤ wr.heap.size := by omega
             obtain ⟨yb, hyb⟩ : ∃ yb, wr.heap.size = yb := ⟨_, rfl⟩
             rw [hyb] at hY5 hGyb hzy ⊢
             clear hG4)
          have hJ5 := HJ.out.same hq5
          have hFz : ∀ k, F k → k < z := fun k hk => by have := HJ.out.bo.id.1 k hk; omega
          have hBz : ∀ k, blockOf B = some k → k < z := fun k hk => by have := HJ.out.bo.dw.lt hk; omega
          have hxz : xb < z := by have := HJ.out.xx.lt; omega
          have hwz := HJ.out.bel.size
          have hK5 : PJ w w5 yb p2 G 3 20 l t B c := ⟨⟨hI5, hJ5.bo.dw, fun k hk hG => by have := hBz k hk; have := hGz k hG; omega⟩, by rw [HLL.out]; exact hY5, ⟨fun k hk => by have := hGz k hk; omega, by omega⟩, ⟨hGyb, fun k hk e => by have := hBz k hk; omega⟩, hJ5.bel⟩
          have hwz2 : w.heap.size ≤ z := by omega
          have HJ5 := Lib.hid hJ5
          have HK5 := Lib.hid hK5
          clear hJ5 hK5 hY5 hq5 hq3 hs3 hI3 hI5 hG3 HJ HCL HSX x0 x1 x2 xa0 xa1 xa2 hXA hz3 HZ0 hq0 HLL hGyb
          go_wp2
          go_loopw [10, 14] (fun v10 v14 wr => ∃ (i2 : Nat) (b2 : Bool) (G : Nat → Prop) (l2 : List On) (t2 : Nat) (B2 : Option Addr) (c2 : Nat), v14 = .int .i64 (i2 : Int) ∧ v10 = .bool b2 ∧ i2 ≤ 20 ∧ t2 ≤ 25 + i2 ∧ PJ w wr yb p2 G 3 20 l2 t2 B2 c2 ∧ PJ w wr xb p F 3 20 l t B c ∧ (∀ k, G k → z ≤ k)) (fun _ v _ => 20 - (intOf v).toNat)
          case atStart => exact ⟨0, b, G, l, t, B, c, rfl, rfl, by omega, by omega, HK5.out, HJ5.out, hGz⟩
          case round =>
            clear HJ5 HK5 hGz G
            obtain ⟨i2, b2, G, l2, t2, B2, c2, rfl, rfl, hi2, ht2, hK, hJ, hGz⟩ := hrel
            by_cases hgo2 : i2 < n1 ∧ i2 < 20
            · obtain ⟨hin2, hi20⟩ := hgo2
              have hin' : ((i2 : Int) < (n1 : Int)) := by omega
              have hi20' : ((i2 : Int) < 20) := by omega
              obtain ⟨ad, ⟨kd, cn, nn, nm⟩, rfl, hxe, hcell⟩ := hmor.out i2 hin2
              obtain ⟨hck, hnsz⟩ := HG1.out i2 hin2
              rw [← hxe] at hck hnsz
              obtain ⟨a0, a1, a2, a3⟩ := hcell wr hK.bel
              simp only at a0 a1 a2 a3 hck hnsz
              have x0 := hK.xx.cell (i := 0) rfl
              have x1 := hK.xx.cell (i := 1) rfl
              have x2 := hK.xx.cell (i := 2) rfl
              have HDO := Lib.hid (fun wd (hd : wd = wr.drew) => by subst hd; exact (do_calls (hK.bo.same ((Step.refl _ _).drew)) (by omega) (by omega) (by omega) kd cn nn nw hck nm hnsz))
              unfold DoP at HDO
              have HK := Lib.hid hK
              have HJ := Lib.hid hJ
              have hzr : z ≤ wr.heap.size := by have := hK.xx.lt; omega
              clear hK hJ hcell hxe
              obtain ⟨l2l, hl2l⟩ : ∃ ll, l2.length = ll := ⟨_, rfl⟩
              rw [hl2l] at x2 HDO
              go_upto_region 19 with (fail)
              go_region_with (go_at_call 26; refine (HDO.out _ rfl).mono ?_; rintro e3 w3 ⟨F3, l3, t3, B3, c3, rfl, hB3, ht3, hs3', hn3, hA3⟩; have hs3 : Step G wr w3 := ((Step.refl G wr).drew).same hs3'; have hX3 := HK.out.xx.keep hs3 HK.out.sep.1; have f0 := hX3.free 0; have f1 := hX3.free 1; have f2 := hX3.free 2; have r0 := hX3.cell (i := 0) rfl; have r1 := hX3.cell (i := 1) rfl; have r2 := hX3.cell (i := 2) rfl)
              all_goals
                obtain ⟨hZ, hsZ⟩ := put3 hX3 (.int .i64 3) (.int .i64 20) (.slice B3 l3.length c3)
                have hK4 := HK.out.next hB3 hs3 hn3 hA3 hZ hsZ
                generalize (((w3.setCell ⟨yb, 0, none⟩ (.int .i64 3)).setCell ⟨yb, 1, none⟩ (.int .i64 20)).setCell ⟨yb, 2, none⟩ (.slice B3 l3.length c3)) = w4 at *
                have hJ4 := HJ.out.other (H := fun k => G k ∨ k = yb) ((hs3.mono (fun _ _ h => .inl h)).same (hsZ.mono (fun _ _ h => .inr h))) (fun k hk h => by have := hFz k hk; rcases h with h | h; (have := hGz k h; omega); omega) (fun k hk h => by have := hBz k hk; rcases h with h | h; (have := hGz k h; omega); omega) (fun h => by rcases h with h | h; (have := hGz _ h; omega); omega) hK4.bel
                have hG4 : ∀ k, F3 k → z ≤ k := fun k hk => (hn3 k hk).elim (hGz k) (fun h => by have h' : wr.drew.heap.size = wr.heap.size := rfl; omega)
                have HK4 := Lib.hid hK4
                have HJ4 := Lib.hid hJ4
                clear hZ hsZ hK4 hJ4 hB3 hs3' hs3 hn3 hA3 hX3 f0 f1 f2 r0 r1 r2 HDO HK HJ x0 x1 x2 a0 a1 a2 a3 hGz
                simp only [Act.put, List.getElem_toArray, List.getElem_cons_zero, List.getElem_cons_succ, List.setIfInBounds_toArray, List.set_cons_zero, List.set_cons_succ]
                go_wp2
                go_roundw
                case rel => exact ⟨i2 + 1, true, F3, l3, t3, B3, c3, by go_num, rfl, by omega, by omega, HK4.out, HJ4.out, hG4⟩
                case measure => simp [intOf]; omega
            · have HXa := Lib.hid (fun w' (hs : Step (fun _ => False) wr w') => is_calls (hJ.bo.same hs) (by omega) (s := ⟨#[97]⟩) (by decide))
              have HYa := Lib.hid (fun w' (hs : Step (fun _ => False) wr w') => is_calls (hK.bo.same hs) (by omega) (s := ⟨#[97]⟩) (by decide))
              have HXb := Lib.hid (fun w' (hs : Step (fun _ => False) wr w') => is_calls (hJ.bo.same hs) (by omega) (s := ⟨#[98]⟩) (by decide))
              have HYb := Lib.hid (fun w' (hs : Step (fun _ => False) wr w') => is_calls (hK.bo.same hs) (by omega) (s := ⟨#[98]⟩) (by decide))
              have HS := Lib.hid (fun w' (hs : Step (fun _ => False) wr w') => (⟨(hJ.xx.keep hs (fun h => h)).cell (i := 0) rfl, (hJ.xx.keep hs (fun h => h)).cell (i := 1) rfl, (hJ.xx.keep hs (fun h => h)).cell (i := 2) rfl, (hK.xx.keep hs (fun h => h)).cell (i := 0) rfl, (hK.xx.keep hs (fun h => h)).cell (i := 1) rfl, (hK.xx.keep hs (fun h => h)).cell (i := 2) rfl⟩ : w'.cell? ⟨xb, 0, none⟩ = some (.int .i64 3) ∧ w'.cell? ⟨xb, 1, none⟩ = some (.int .i64 20) ∧ w'.cell? ⟨xb, 2, none⟩ = some (.slice B l.length c) ∧ w'.cell? ⟨yb, 0, none⟩ = some (.int .i64 3) ∧ w'.cell? ⟨yb, 1, none⟩ = some (.int .i64 20) ∧ w'.cell? ⟨yb, 2, none⟩ = some (.slice B2 l2.length c2)))
              have hbel := hK.bel
              have hq0 : Step (fun _ => False) wr wr := Step.refl _ _
              obtain ⟨x0, x1, x2, y0, y1, y2⟩ := HS.out _ hq0
              clear hK hJ hmor HG1
              have hends2 : ¬ i2 < n1 ∨ (i2 < n1 ∧ ¬ i2 < 20) := by omega
              rcases hends2 with h1 | ⟨h1, h2⟩
              · have q1 : ((i2 : Int) < (n1 : Int)) = False := eq_false (by omega)
                go_upto_region 22 with (fail)
                go_wp2_with (first | (go_at_call 27; refine (HXa.out _ hq0).mono ?_; clear HXa; rintro e6 w6 ⟨rfl, hs6⟩; have hq1 : Step (fun _ => False) wr w6 := hq0.same hs6; obtain ⟨aa0, aa1, aa2, aa3, aa4, aa5⟩ := HS.out _ hq1) | (go_at_call 27; refine (HYa.out _ hq1).mono ?_; clear HYa; rintro e7 w7 ⟨rfl, hs7⟩; have hq2 : Step (fun _ => False) wr w7 := hq1.same hs7; obtain ⟨bb0, bb1, bb2, bb3, bb4, bb5⟩ := HS.out _ hq2) | (go_at_call 27; refine (HXb.out _ hq2).mono ?_; clear HXb; rintro e8 w8 ⟨rfl, hs8⟩; have hq3 : Step (fun _ => False) wr w8 := hq2.same hs8; obtain ⟨cc0, cc1, cc2, cc3, cc4, cc5⟩ := HS.out _ hq3) | (go_at_call 27; refine (HYb.out _ hq3).mono ?_; rintro e9 w9 ⟨rfl, hs9⟩; have hq4 : Step (fun _ => False) wr w9 := hq3.same hs9))
                all_goals
                  go_ret
                  exact ⟨rfl, hbel.trans (hq4.below hbel.size (fun _ h => h.elim))⟩
              · have q1 : ((i2 : Int) < (n1 : Int)) = True := eq_true (by omega)
                have q2 : ((i2 : Int) < 20) = False := eq_false (by omega)
                go_upto_region 22 with (fail)
                go_wp2_with (first | (go_at_call 27; refine (HXa.out _ hq0).mono ?_; clear HXa; rintro e6 w6 ⟨rfl, hs6⟩; have hq1 : Step (fun _ => False) wr w6 := hq0.same hs6; obtain ⟨aa0, aa1, aa2, aa3, aa4, aa5⟩ := HS.out _ hq1) | (go_at_call 27; refine (HYa.out _ hq1).mono ?_; clear HYa; rintro e7 w7 ⟨rfl, hs7⟩; have hq2 : Step (fun _ => False) wr w7 := hq1.same hs7; obtain ⟨bb0, bb1, bb2, bb3, bb4, bb5⟩ := HS.out _ hq2) | (go_at_call 27; refine (HXb.out _ hq2).mono ?_; clear HXb; rintro e8 w8 ⟨rfl, hs8⟩; have hq3 : Step (fun _ => False) wr w8 := hq2.same hs8; obtain ⟨cc0, cc1, cc2, cc3, cc4, cc5⟩ := HS.out _ hq3) | (go_at_call 27; refine (HYb.out _ hq3).mono ?_; rintro e9 w9 ⟨rfl, hs9⟩; have hq4 : Step (fun _ => False) wr w9 := hq3.same hs9))
                all_goals
                  go_ret
                  exact ⟨rfl, hbel.trans (hq4.below hbel.size (fun _ h => h.elim))⟩
      · have q1 : ((i : Int) < (n : Int)) = True := eq_true (by omega)
        have q2 : ((i : Int) < 25) = False := eq_false (by omega)
        go_upto_region 13 with (fail)
        have HSX := Lib.hid (fun w' (hs : Step (fun _ => False) wr w') => (by
          have hX := HJ.out.xx.keep hs (fun h => h)
          rw [HLL.out] at hX
          exact ⟨hX.cell (i := 0) rfl, hX.cell (i := 1) rfl, hX.cell (i := 2) rfl⟩ : w'.cell? ⟨xb, 0, none⟩ = some (.int .i64 3) ∧ w'.cell? ⟨xb, 1, none⟩ = some (.int .i64 20) ∧ w'.cell? ⟨xb, 2, none⟩ = some (.slice B ll c)))
        go_region_held3 (fun w' => w'.cell? ⟨xb, 0, none⟩ = some (.int .i64 3) ∧ w'.cell? ⟨xb, 1, none⟩ = some (.int .i64 20) ∧ w'.cell? ⟨xb, 2, none⟩ = some (.slice B ll c))
          (first
            | exact HSX.out _ hq3
            | exact HSX.out _ hq0
            | exact HSX.out _ (hq0.alloc _)
            | exact HSX.out _ (hq3.alloc _)
            | exact HSX.out _ (((hq3.setCell (fun h => absurd h (by first | exact Nat.lt_irrefl _ | (simp only; omega)))  _).setCell (fun h => absurd h (by first | exact Nat.lt_irrefl _ | (simp only; omega))) _).setCell (fun h => absurd h (by first | exact Nat.lt_irrefl _ | (simp only; omega))) _)
            | exact HSX.out _ ((((hq3.alloc _).setCell (fun h => absurd h (by first | exact Nat.lt_irrefl _ | (simp only; omega)))  _).setCell (fun h => absurd h (by first | exact Nat.lt_irrefl _ | (simp only; omega))) _).setCell (fun h => absurd h (by first | exact Nat.lt_irrefl _ | (simp only; omega))) _)
            | go_keep)
          ((go_at_call 28; refine (HCL.out _ (by first | exact hq0 | exact hq0.alloc _)).mono ?_; rintro e3 w3 ⟨p2, G, rfl, hI3, hs3, hG3⟩; have hq3 : Step (fun _ => False) wr w3 := (by first | exact hq0.same hs3 | exact (hq0.alloc _).same hs3); have hz3 := hq3.size; try (have hY3 := (blk_new wr.drew [.int .i64 0, .int .i64 0, .slice none 0 0] 57).keep hs3 (fun h => h); have hY3' : Blk w3 wr.heap.size 57 [.int .i64 0, .int .i64 0, .slice none 0 0] := hY3; have g0' := hY3'.free 0; have g1' := hY3'.free 1; have g2' := hY3'.free 2; have r0' := hY3'.cell (i := 0) rfl; have r1' := hY3'.cell (i := 1) rfl; have r2' := hY3'.cell (i := 2) rfl)))
        all_goals
          have hzz := HZ0.out
          have hGd : wr.drew.heap.size = wr.heap.size := rfl
          first
          | (go_upto_region 14 with (fail)
             refine alloc_next (cs := [.int .i64 3, .int .i64 20, .slice B ll c]) ?_
             intro w5 hY5 hs5
             have hq5 := hq3.same hs5
             have hI5 := hI3.same hs5
             have hGyb : ¬ G w3.heap.size := fun h => by have := hI3.1 _ h; omega
             have hGz : ∀ k, G k → z ≤ k := fun k hk => by have := hG3 k hk; omega
             have hzy : z ≤ w3.heap.size := by omega
             generalize w3.heap.size = yb at *)
          | (go_upto_region 14 with (fail)
             obtain ⟨hY5, hsZ⟩ := put3 hY3' (.int .i64 3) (.int .i64 20) (.slice B ll c)
             generalize (((w3.setCell ⟨wr.heap.size, 0, none⟩ (.int .i64 3)).setCell ⟨wr.heap.size, 1, none⟩ (.int .i64 20)).setCell ⟨wr.heap.size, 2, none⟩ (.slice B ll c)) = w5 at *
             have hG4 : ∀ k, G k → z + 1 ≤ k := fun k hk => by have h1 := hG3 k hk; have h2 : ∀ o, (wr.alloc o).drew.heap.size = wr.heap.size + 1 := (fun o => by show (wr.heap.push _).size = _; simp); rw [h2] at h1; omega
             have hq5 : Step (fun _ => False) wr w5 := hq3.trans hsZ (fun j hj e => by omega)
             have hI5 := hI3.keep hsZ (fun k hk e => by have := hG4 k hk; omega)
             have hGyb : ¬ G wr.heap.size := fun h => by have := hG4 _ h; omega
             have hGz : ∀ k, G k → z ≤ k := fun k hk => by have := hG4 k hk; omega
             have hzy : z ≤ wr.heap.size := by omega
             obtain ⟨yb, hyb⟩ : ∃ yb, wr.heap.size = yb := ⟨_, rfl⟩
             rw [hyb] at hY5 hGyb hzy ⊢
             clear hG4)
          have hJ5 := HJ.out.same hq5
          have hFz : ∀ k, F k → k < z := fun k hk => by have := HJ.out.bo.id.1 k hk; omega
          have hBz : ∀ k, blockOf B = some k → k < z := fun k hk => by have := HJ.out.bo.dw.lt hk; omega
          have hxz : xb < z := by have := HJ.out.xx.lt; omega
          have hwz := HJ.out.bel.size
          have hK5 : PJ w w5 yb p2 G 3 20 l t B c := ⟨⟨hI5, hJ5.bo.dw, fun k hk hG => by have := hBz k hk; have := hGz k hG; omega⟩, by rw [HLL.out]; exact hY5, ⟨fun k hk => by have := hGz k hk; omega, by omega⟩, ⟨hGyb, fun k hk e => by have := hBz k hk; omega⟩, hJ5.bel⟩
          have hwz2 : w.heap.size ≤ z := by omega
          have HJ5 := Lib.hid hJ5
          have HK5 := Lib.hid hK5
          clear hJ5 hK5 hY5 hq5 hq3 hs3 hI3 hI5 hG3 HJ HCL HSX x0 x1 x2 xa0 xa1 xa2 hXA hz3 HZ0 hq0 HLL hGyb
          go_wp2
          go_loopw [10, 14] (fun v10 v14 wr => ∃ (i2 : Nat) (b2 : Bool) (G : Nat → Prop) (l2 : List On) (t2 : Nat) (B2 : Option Addr) (c2 : Nat), v14 = .int .i64 (i2 : Int) ∧ v10 = .bool b2 ∧ i2 ≤ 20 ∧ t2 ≤ 25 + i2 ∧ PJ w wr yb p2 G 3 20 l2 t2 B2 c2 ∧ PJ w wr xb p F 3 20 l t B c ∧ (∀ k, G k → z ≤ k)) (fun _ v _ => 20 - (intOf v).toNat)
          case atStart => exact ⟨0, b, G, l, t, B, c, rfl, rfl, by omega, by omega, HK5.out, HJ5.out, hGz⟩
          case round =>
            clear HJ5 HK5 hGz G
            obtain ⟨i2, b2, G, l2, t2, B2, c2, rfl, rfl, hi2, ht2, hK, hJ, hGz⟩ := hrel
            by_cases hgo2 : i2 < n1 ∧ i2 < 20
            · obtain ⟨hin2, hi20⟩ := hgo2
              have hin' : ((i2 : Int) < (n1 : Int)) := by omega
              have hi20' : ((i2 : Int) < 20) := by omega
              obtain ⟨ad, ⟨kd, cn, nn, nm⟩, rfl, hxe, hcell⟩ := hmor.out i2 hin2
              obtain ⟨hck, hnsz⟩ := HG1.out i2 hin2
              rw [← hxe] at hck hnsz
              obtain ⟨a0, a1, a2, a3⟩ := hcell wr hK.bel
              simp only at a0 a1 a2 a3 hck hnsz
              have x0 := hK.xx.cell (i := 0) rfl
              have x1 := hK.xx.cell (i := 1) rfl
              have x2 := hK.xx.cell (i := 2) rfl
              have HDO := Lib.hid (fun wd (hd : wd = wr.drew) => by subst hd; exact (do_calls (hK.bo.same ((Step.refl _ _).drew)) (by omega) (by omega) (by omega) kd cn nn nw hck nm hnsz))
              unfold DoP at HDO
              have HK := Lib.hid hK
              have HJ := Lib.hid hJ
              have hzr : z ≤ wr.heap.size := by have := hK.xx.lt; omega
              clear hK hJ hcell hxe
              obtain ⟨l2l, hl2l⟩ : ∃ ll, l2.length = ll := ⟨_, rfl⟩
              rw [hl2l] at x2 HDO
              go_upto_region 19 with (fail)
              go_region_with (go_at_call 26; refine (HDO.out _ rfl).mono ?_; rintro e3 w3 ⟨F3, l3, t3, B3, c3, rfl, hB3, ht3, hs3', hn3, hA3⟩; have hs3 : Step G wr w3 := ((Step.refl G wr).drew).same hs3'; have hX3 := HK.out.xx.keep hs3 HK.out.sep.1; have f0 := hX3.free 0; have f1 := hX3.free 1; have f2 := hX3.free 2; have r0 := hX3.cell (i := 0) rfl; have r1 := hX3.cell (i := 1) rfl; have r2 := hX3.cell (i := 2) rfl)
              all_goals
                obtain ⟨hZ, hsZ⟩ := put3 hX3 (.int .i64 3) (.int .i64 20) (.slice B3 l3.length c3)
                have hK4 := HK.out.next hB3 hs3 hn3 hA3 hZ hsZ
                generalize (((w3.setCell ⟨yb, 0, none⟩ (.int .i64 3)).setCell ⟨yb, 1, none⟩ (.int .i64 20)).setCell ⟨yb, 2, none⟩ (.slice B3 l3.length c3)) = w4 at *
                have hJ4 := HJ.out.other (H := fun k => G k ∨ k = yb) ((hs3.mono (fun _ _ h => .inl h)).same (hsZ.mono (fun _ _ h => .inr h))) (fun k hk h => by have := hFz k hk; rcases h with h | h; (have := hGz k h; omega); omega) (fun k hk h => by have := hBz k hk; rcases h with h | h; (have := hGz k h; omega); omega) (fun h => by rcases h with h | h; (have := hGz _ h; omega); omega) hK4.bel
                have hG4 : ∀ k, F3 k → z ≤ k := fun k hk => (hn3 k hk).elim (hGz k) (fun h => by have h' : wr.drew.heap.size = wr.heap.size := rfl; omega)
                have HK4 := Lib.hid hK4
                have HJ4 := Lib.hid hJ4
                clear hZ hsZ hK4 hJ4 hB3 hs3' hs3 hn3 hA3 hX3 f0 f1 f2 r0 r1 r2 HDO HK HJ x0 x1 x2 a0 a1 a2 a3 hGz
                simp only [Act.put, List.getElem_toArray, List.getElem_cons_zero, List.getElem_cons_succ, List.setIfInBounds_toArray, List.set_cons_zero, List.set_cons_succ]
                go_wp2
                go_roundw
                case rel => exact ⟨i2 + 1, true, F3, l3, t3, B3, c3, by go_num, rfl, by omega, by omega, HK4.out, HJ4.out, hG4⟩
                case measure => simp [intOf]; omega
            · have HXa := Lib.hid (fun w' (hs : Step (fun _ => False) wr w') => is_calls (hJ.bo.same hs) (by omega) (s := ⟨#[97]⟩) (by decide))
              have HYa := Lib.hid (fun w' (hs : Step (fun _ => False) wr w') => is_calls (hK.bo.same hs) (by omega) (s := ⟨#[97]⟩) (by decide))
              have HXb := Lib.hid (fun w' (hs : Step (fun _ => False) wr w') => is_calls (hJ.bo.same hs) (by omega) (s := ⟨#[98]⟩) (by decide))
              have HYb := Lib.hid (fun w' (hs : Step (fun _ => False) wr w') => is_calls (hK.bo.same hs) (by omega) (s := ⟨#[98]⟩) (by decide))
              have HS := Lib.hid (fun w' (hs : Step (fun _ => False) wr w') => (⟨(hJ.xx.keep hs (fun h => h)).cell (i := 0) rfl, (hJ.xx.keep hs (fun h => h)).cell (i := 1) rfl, (hJ.xx.keep hs (fun h => h)).cell (i := 2) rfl, (hK.xx.keep hs (fun h => h)).cell (i := 0) rfl, (hK.xx.keep hs (fun h => h)).cell (i := 1) rfl, (hK.xx.keep hs (fun h => h)).cell (i := 2) rfl⟩ : w'.cell? ⟨xb, 0, none⟩ = some (.int .i64 3) ∧ w'.cell? ⟨xb, 1, none⟩ = some (.int .i64 20) ∧ w'.cell? ⟨xb, 2, none⟩ = some (.slice B l.length c) ∧ w'.cell? ⟨yb, 0, none⟩ = some (.int .i64 3) ∧ w'.cell? ⟨yb, 1, none⟩ = some (.int .i64 20) ∧ w'.cell? ⟨yb, 2, none⟩ = some (.slice B2 l2.length c2)))
              have hbel := hK.bel
              have hq0 : Step (fun _ => False) wr wr := Step.refl _ _
              obtain ⟨x0, x1, x2, y0, y1, y2⟩ := HS.out _ hq0
              clear hK hJ hmor HG1
              have hends2 : ¬ i2 < n1 ∨ (i2 < n1 ∧ ¬ i2 < 20) := by omega
              rcases hends2 with h1 | ⟨h1, h2⟩
              · have q1 : ((i2 : Int) < (n1 : Int)) = False := eq_false (by omega)
                go_upto_region 22 with (fail)
                go_wp2_with (first | (go_at_call 27; refine (HXa.out _ hq0).mono ?_; clear HXa; rintro e6 w6 ⟨rfl, hs6⟩; have hq1 : Step (fun _ => False) wr w6 := hq0.same hs6; obtain ⟨aa0, aa1, aa2, aa3, aa4, aa5⟩ := HS.out _ hq1) | (go_at_call 27; refine (HYa.out _ hq1).mono ?_; clear HYa; rintro e7 w7 ⟨rfl, hs7⟩; have hq2 : Step (fun _ => False) wr w7 := hq1.same hs7; obtain ⟨bb0, bb1, bb2, bb3, bb4, bb5⟩ := HS.out _ hq2) | (go_at_call 27; refine (HXb.out _ hq2).mono ?_; clear HXb; rintro e8 w8 ⟨rfl, hs8⟩; have hq3 : Step (fun _ => False) wr w8 := hq2.same hs8; obtain ⟨cc0, cc1, cc2, cc3, cc4, cc5⟩ := HS.out _ hq3) | (go_at_call 27; refine (HYb.out _ hq3).mono ?_; rintro e9 w9 ⟨rfl, hs9⟩; have hq4 : Step (fun _ => False) wr w9 := hq3.same hs9))
                all_goals
                  go_ret
                  exact ⟨rfl, hbel.trans (hq4.below hbel.size (fun _ h => h.elim))⟩
              · have q1 : ((i2 : Int) < (n1 : Int)) = True := eq_true (by omega)
                have q2 : ((i2 : Int) < 20) = False := eq_false (by omega)
                go_upto_region 22 with (fail)
                go_wp2_with (first | (go_at_call 27; refine (HXa.out _ hq0).mono ?_; clear HXa; rintro e6 w6 ⟨rfl, hs6⟩; have hq1 : Step (fun _ => False) wr w6 := hq0.same hs6; obtain ⟨aa0, aa1, aa2, aa3, aa4, aa5⟩ := HS.out _ hq1) | (go_at_call 27; refine (HYa.out _ hq1).mono ?_; clear HYa; rintro e7 w7 ⟨rfl, hs7⟩; have hq2 : Step (fun _ => False) wr w7 := hq1.same hs7; obtain ⟨bb0, bb1, bb2, bb3, bb4, bb5⟩ := HS.out _ hq2) | (go_at_call 27; refine (HXb.out _ hq2).mono ?_; clear HXb; rintro e8 w8 ⟨rfl, hs8⟩; have hq3 : Step (fun _ => False) wr w8 := hq2.same hs8; obtain ⟨cc0, cc1, cc2, cc3, cc4, cc5⟩ := HS.out _ hq3) | (go_at_call 27; refine (HYb.out _ hq3).mono ?_; rintro e9 w9 ⟨rfl, hs9⟩; have hq4 : Step (fun _ => False) wr w9 := hq3.same hs9))
                all_goals
                  go_ret
                  exact ⟨rfl, hbel.trans (hq4.below hbel.size (fun _ h => h.elim))⟩
end Go.Proofs.Ytgohlbljdffelaa.Idl
