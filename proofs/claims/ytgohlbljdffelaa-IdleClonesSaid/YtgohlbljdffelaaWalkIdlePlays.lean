/- The walk of stewardlaw25.IdlePlays. Own work of this seat. -/
import Derived.Test.YtgohlbljdffelaaIdlIs
namespace Go.Proofs.Ytgohlbljdffelaa.Idl
open Go.RowKit Go.Proofs.Ytgohlbljdffelaa.Kit Go.Proofs.Ytgohlbljdffelaa.AgP Go.Proofs.Ytgohlbljdffelaa.IntS Go.Proofs.Ytgohlbljdffelaa.Rd Go.Proofs.Ytgohlbljdffelaa.Cut Go.Proofs.YtgohlbljdffelaaW.PrintWords Go.Proofs.Ytgohlbljdffelaa
set_option linter.unusedVariables false
set_option linter.unusedSimpArgs false

theorem bits_31 (n : Int) : Go.bits .and .i64 n 31 = n % 32 := by
  have h7 : (BitVec.ofInt 64 31).toNat = 2 ^ 5 - 1 := by decide
  have key : (BitVec.ofInt 64 n &&& BitVec.ofInt 64 31).toNat = (n % ((2 ^ 64 : Nat) : Int)).toNat % 2 ^ 5 := by
    rw [BitVec.toNat_and, BitVec.toNat_ofInt, h7, Nat.and_two_pow_sub_one_eq_mod]
  show IntKind.i64.wrap ((BitVec.ofInt 64 n &&& BitVec.ofInt 64 31).toNat : Nat) = n % 32
  rw [key, IntKind.wrap_i64]
  omega
/-- Between the calls of IdlePlays: both, and the document's value in its variable at xb. -/
structure PJ (w0 w : World) (xb p : Nat) (F : Nat → Prop) (most life : Int) (l : List On) (t : Nat) (B : Option Addr) (c : Nat) : Prop where
  bo : Bo w p F most life l t B c
  xx : Blk w xb 57 [.int .i64 most, .int .i64 life, .slice B l.length c]
  low : (∀ k, F k → w0.heap.size ≤ k) ∧ w0.heap.size ≤ xb
  sep : ¬ F xb ∧ ∀ k, blockOf B = some k → k ≠ xb
  bel : Below w0.heap.size w0 w
theorem PJ.same {w0 w w' : World} {xb p : Nat} {F : Nat → Prop} {most life : Int} {l : List On} {t : Nat} {B : Option Addr} {c : Nat} (h : PJ w0 w xb p F most life l t B c) (hs : Step (fun _ => False) w w') : PJ w0 w' xb p F most life l t B c :=
  ⟨h.bo.same hs, h.xx.keep hs (fun h => h), h.low, h.sep, h.bel.trans (hs.below h.bel.size (fun _ h => h.elim))⟩
/-- Behind a call of both and the store of the document's value. -/
theorem PJ.next {w0 w w3 w4 : World} {xb p : Nat} {F F' : Nat → Prop} {most life : Int} {l l' : List On} {t t' : Nat} {B B' : Option Addr} {c c' : Nat} (h : PJ w0 w xb p F most life l t B c)
    (hb : Bo w3 p F' most life l' t' B' c') (hs : Step F w w3) (hn : ∀ k, F' k → F k ∨ w.heap.size ≤ k) (hB : ∀ k, blockOf B' = some k → blockOf B = some k ∨ w.heap.size ≤ k) (hx : Blk w4 xb 57 [.int .i64 most, .int .i64 life, .slice B' l'.length c']) (h4 : Step (· = xb) w3 w4) : PJ w0 w4 xb p F' most life l' t' B' c' := by
  have hl := h.xx.lt
  have hz := h.bel.size
  have hF : ¬ F' xb := fun hk => (hn xb hk).elim h.sep.1 (fun h => by omega)
  have hBx : ∀ k, blockOf B' = some k → k ≠ xb := fun k hk e => (hB k hk).elim (fun h' => h.sep.2 k h' e) (fun h => by omega)
  refine ⟨hb.keep h4 (fun k hk e => hF (by subst e; exact hk)) (fun k hk e => hBx k hk e), hx, ⟨fun k hk => (hn k hk).elim (h.low.1 k) (fun h => by omega), h.low.2⟩, ⟨hF, hBx⟩, ?_⟩
  have b3 := h.bel.trans (hs.below hz h.low.1)
  exact b3.trans (h4.below (by have := hs.size; omega) (fun k hk => by have := h.low.2; omega))

set_option maxRecDepth 100000 in
set_option maxHeartbeats 2000000 in
theorem plays_calls (mo0 li0 : Int) (A0 : Option Addr) (c0 : Nat) (acts : List Act4) (w : World) (hr : Kd.C kAct4 w A0 acts.length acts) (hc : acts.length ≤ c0) (hg : ∀ x ∈ acts, AgInt.KOk x.f1 ∧ x.f3.size ≤ 9223372036854775807) :
    Calls Try.prog 6 #[.int .i64 mo0, .int .i64 li0, .slice A0 acts.length c0] w fun e w' => e = .returned (.bool true) ∧ Below w.heap.size w w' := by
  have hact := Lib.hid (fun i (hi : i < acts.length) => act_at hr i hi)
  have HG := Lib.hid (fun i (hi : i < acts.length) => hg (acts.getD i zAct4) (by rw [List.getD_eq_getElem?_getD, List.getElem?_eq_getElem hi]; exact List.getElem_mem hi))
  clear hr hg
  generalize acts.length = n at *
  have HN := Lib.hid (fun w1 => Idl.new_calls w1 mo0 li0)
  have HRN := Lib.hid (fun w1 => Rd.new_calls w1 mo0 li0)
  have hmo : 0 ≤ clip1 mo0 0 1024 := by unfold clip1; omega
  have hli : 0 ≤ clip1 li0 1 1048576 ∧ clip1 li0 1 1048576 ≤ 1048576 := by unfold clip1; omega
  generalize clip1 mo0 0 1024 = mo at *
  generalize clip1 li0 1 1048576 = li at *
  go_enter Try.func6, Try.ntmps6
  go_upto_region 4 with (first | (go_at_call 13; refine (awake_calls _).mono ?_; rintro e0 w1 ⟨rfl, hs1⟩) | (go_at_call 14; refine (HN.out _).mono ?_; rintro e1 w2 ⟨p, F, rfl, hI2, hs2, hF2⟩) | (go_at_call 25; refine (HRN.out _).mono ?_; rintro e2 w3 ⟨rfl, hs3⟩))
  refine alloc_next (cs := [.int .i64 mo, .int .i64 li, .slice none 0 0]) ?_
  intro w4 hX hs4
  have hJ0 : PJ w w4 w3.heap.size p F mo li [] 0 none 0 := by
    have z1 := hs1.size
    have z2 := hs2.size
    have z3 := hs3.size
    have hs34 := hs3.same hs4
    refine ⟨⟨hI2.same hs34, dw_nil _, fun k hk => (by cases hk)⟩, hX, ⟨fun k hk => by have := hF2 k hk; omega, by omega⟩, ⟨fun h => by have := hI2.1 _ h; omega, fun k hk => (by cases hk)⟩, ?_⟩
    exact ((hs1.same hs2).same hs34).below (Nat.le_refl _) (fun _ h => h.elim)
  generalize w3.heap.size = xb at *
  clear hI2 hs1 hs2 hs3 hs4 hF2 HN HRN hX
  go_wp2
  go_loopw [9, 10, 11] (fun v9 v10 v11 wr => ∃ (i : Nat) (now : Int) (b : Bool) (F : Nat → Prop) (l : List On) (t : Nat) (B : Option Addr) (c : Nat), v11 = .int .i64 (i : Int) ∧ v9 = .int .i64 now ∧ v10 = .bool b ∧ i ≤ 50 ∧ t ≤ i ∧ 0 ≤ now ∧ now ≤ 31 * i ∧ PJ w wr xb p F mo li l t B c) (fun _ _ v _ => 50 - (intOf v).toNat)
  case atStart => exact ⟨0, 0, false, F, [], 0, none, 0, rfl, rfl, rfl, by omega, by omega, by omega, by omega, hJ0⟩
  case round =>
    clear hJ0 F
    obtain ⟨i, now, b, F, l, t, B, c, rfl, rfl, rfl, hi, hti, hn0, hn1, hJ⟩ := hrel
    by_cases hgo : i < n ∧ i < 50
    · obtain ⟨hin, hi50⟩ := hgo
      have hin' : ((i : Int) < (n : Int)) := by omega
      have hi50' : ((i : Int) < 50) := by omega
      obtain ⟨ad, ⟨kd, cn, nn, nm⟩, rfl, hxe, hcell⟩ := hact.out i hin
      obtain ⟨hck, hnsz⟩ := HG.out i hin
      rw [← hxe] at hck hnsz
      obtain ⟨a0, a1, a2, a3⟩ := hcell wr hJ.bel
      simp only at a0 a1 a2 a3 hck hnsz
      have hbt := bits_31 nn
      have hm0 : 0 ≤ nn % 32 ∧ nn % 32 ≤ 31 := by omega
      obtain ⟨dn, hdn⟩ : ∃ dn, nn % 32 = dn := ⟨_, rfl⟩
      rw [hdn] at hbt hm0
      have hwn : IntKind.i64.wrap (now + dn) = now + dn := by rw [IntKind.wrap_i64]; omega
      have HDO := do_calls hJ.bo (by omega) hmo hli kd cn nn (now + dn) hck nm hnsz
      unfold DoP at HDO
      have x0 := hJ.xx.cell (i := 0) rfl
      have x1 := hJ.xx.cell (i := 1) rfl
      have x2 := hJ.xx.cell (i := 2) rfl
      have hFeb : ∀ k, F k → k < wr.heap.size := hJ.bo.id.1
      have HDO := Lib.hid (fun wd (hd : wd = wr.drew) => by subst hd; exact (do_calls (hJ.bo.same ((Step.refl _ _).drew)) (by omega) hmo hli kd cn nn (now + dn) hck nm hnsz))
      unfold DoP at HDO
      have HJ := Lib.hid hJ
      have HCELL := Lib.hid (fun w' hb => (hcell w' hb).2.2.2)
      have HCU := Lib.hid (fun w' => cut_calls nm 12 hnsz w')
      have hssz := cutB_size nm 12
      clear hJ hcell hxe hdn
      obtain ⟨ll, hll⟩ : ∃ ll, l.length = ll := ⟨_, rfl⟩
      rw [hll] at x2 HDO
      go_upto_region 11 with (fail)
      clear hbt
      go_region_with (go_at_call 26; refine (HDO.out _ rfl).mono ?_; rintro e3 w3 ⟨F3, l3, t3, B3, c3, rfl, hB3, ht3, hs3', hn3, hA3⟩; have hs3 : Step F wr w3 := ((Step.refl F wr).drew).same hs3'; have hX3 := HJ.out.xx.keep hs3 HJ.out.sep.1; have f0 := hX3.free 0; have f1 := hX3.free 1; have f2 := hX3.free 2; have r0 := hX3.cell (i := 0) rfl; have r1 := hX3.cell (i := 1) rfl; have r2 := hX3.cell (i := 2) rfl)
      all_goals
        obtain ⟨hZ, hsZ⟩ := put3 hX3 (.int .i64 mo) (.int .i64 li) (.slice B3 l3.length c3)
        have hJ4 := HJ.out.next hB3 hs3 hn3 hA3 hZ hsZ
        generalize (((w3.setCell ⟨xb, 0, none⟩ (.int .i64 mo)).setCell ⟨xb, 1, none⟩ (.int .i64 li)).setCell ⟨xb, 2, none⟩ (.slice B3 l3.length c3)) = w4 at *
        have hz4 := hJ4.bel.size
        have HIS1 := Lib.hid (fun w' (hs : Step (fun _ => False) w4 w') => is_calls (hJ4.bo.same hs) (by omega) (s := cutB nm 12) (by omega))
        have HIS2 := Lib.hid (fun w' (hs : Step (fun _ => False) w4 w') => is_calls (hJ4.bo.same hs) (by omega) (s := ⟨#[97]⟩) (by decide))
        have HS := Lib.hid (fun w' (hs : Step (fun _ => False) w4 w') => (⟨(hZ.keep hs (fun h => h)).cell (i := 0) rfl, (hZ.keep hs (fun h => h)).cell (i := 1) rfl, (hZ.keep hs (fun h => h)).cell (i := 2) rfl, HCELL.out w' (hJ4.bel.trans (hs.below hz4 (fun _ h => h.elim)))⟩ : w'.cell? ⟨xb, 0, none⟩ = some (.int .i64 mo) ∧ w'.cell? ⟨xb, 1, none⟩ = some (.int .i64 li) ∧ w'.cell? ⟨xb, 2, none⟩ = some (.slice B3 l3.length c3) ∧ w'.cell? ⟨(ad.add (i * 4)).block, (ad.add (i * 4)).off + 3, none⟩ = some (.string nm)))
        have HJ4 := Lib.hid hJ4
        have hq4 : Step (fun _ => False) w4 w4.drew := (Step.refl _ _).drew
        clear hZ hsZ hJ4 hB3 hs3' hs3 hn3 hA3 hX3 f0 f1 f2 r0 r1 r2 HDO HJ HCELL x0 x1 x2 a0 a1 a2 a3
        simp only [Act.put, List.getElem_toArray, List.getElem_cons_zero, List.getElem_cons_succ, List.setIfInBounds_toArray, List.set_cons_zero, List.set_cons_succ]
        go_upto_region 12 with (fail)
        go_region_held3 (fun w' => w'.cell? ⟨xb, 0, none⟩ = some (.int .i64 mo) ∧ w'.cell? ⟨xb, 1, none⟩ = some (.int .i64 li) ∧ w'.cell? ⟨xb, 2, none⟩ = some (.slice B3 l3.length c3) ∧ w'.cell? ⟨(ad.add (i * 4)).block, (ad.add (i * 4)).off + 3, none⟩ = some (.string nm)) (first | exact HS.out _ hq7 | exact HS.out _ hq6 | exact HS.out _ hq4 | go_keep)
          ((first | (go_at_call 15; refine (HCU.out _).mono ?_; rintro e5 w5 ⟨rfl, rfl⟩) | (go_at_call 27; refine (HIS1.out _ hq4).mono ?_; clear HIS1; rintro e6 w6 ⟨rfl, hs6⟩; have hq6 : Step (fun _ => False) w4 w6 := hq4.same hs6) | (go_at_call 27; refine (HIS2.out _ hq6).mono ?_; rintro e7 w7 ⟨rfl, hs7⟩; have hq7 : Step (fun _ => False) w4 w7 := hq6.same hs7)))
        all_goals
          go_wp2
          go_roundw
          case rel => exact ⟨i + 1, now + dn, true, F3, l3, t3, B3, c3, by go_num, rfl, rfl, by omega, by omega, by omega, by omega, HJ4.out.same hq7⟩
          case measure => simp [intOf]; omega
    · have HJ := Lib.hid hJ
      have hends : ¬ i < n ∨ (i < n ∧ ¬ i < 50) := by omega
      clear hJ hact HG
      rcases hends with h1 | ⟨h1, h2⟩
      · have q1 : ((i : Int) < (n : Int)) = False := eq_false (by omega)
        go_wp2
        go_ret
        exact ⟨rfl, HJ.out.bel⟩
      · have q1 : ((i : Int) < (n : Int)) = True := eq_true (by omega)
        have q2 : ((i : Int) < 50) = False := eq_false (by omega)
        go_wp2
        go_ret
        exact ⟨rfl, HJ.out.bel⟩
end Go.Proofs.Ytgohlbljdffelaa.Idl
