/- The walk of stewardlaw16.ChoiceWhole. Own work of this seat. -/
import Derived.Test.YthlllmnlcjkiiaaCho7
namespace Go.Proofs.Ythlllmnlcjkiiaa.Cho
open Go.RowKit Go.Proofs.Ythlllmnlcjkiiaa.Kit Go.Proofs.Ythlllmnlcjkiiaa.Flo Go.Proofs.YthlllmnlcjkiiaaW.PrintWords
set_option linter.unusedVariables false
set_option linter.unusedSimpArgs false
attribute [local go_sem] store_flt

theorem bits_mask (n : Int) (k : Nat) (hk : k < 63) : Go.bits .and .i64 n ((2 ^ k - 1 : Nat) : Int) = n % ((2 ^ k : Nat) : Int) := by
  have hp : 0 < 2 ^ k := Nat.two_pow_pos k
  have hlt : 2 ^ k ≤ 2 ^ 62 := Nat.pow_le_pow_right (by decide) (by omega)
  have h7 : (BitVec.ofInt 64 ((2 ^ k - 1 : Nat) : Int)).toNat = 2 ^ k - 1 := by
    rw [BitVec.toNat_ofInt]
    have : (((2 ^ k - 1 : Nat) : Int) % ((2 ^ 64 : Nat) : Int)).toNat = (2 ^ k - 1) % 2 ^ 64 := by
      rw [← Int.natCast_emod, Int.toNat_natCast]
    rw [this, Nat.mod_eq_of_lt (by have : (2 : Nat) ^ 62 ≤ 2 ^ 64 := by decide
                                   omega)]
  have key : (BitVec.ofInt 64 n &&& BitVec.ofInt 64 ((2 ^ k - 1 : Nat) : Int)).toNat = (n % ((2 ^ 64 : Nat) : Int)).toNat % 2 ^ k := by
    rw [BitVec.toNat_and, BitVec.toNat_ofInt, h7, Nat.and_two_pow_sub_one_eq_mod]
  show IntKind.i64.wrap ((BitVec.ofInt 64 n &&& BitVec.ofInt 64 ((2 ^ k - 1 : Nat) : Int)).toNat : Nat) = _
  rw [key, IntKind.wrap_i64]
  have hdvd : ((2 ^ k : Nat) : Int) ∣ ((2 ^ 64 : Nat) : Int) := by
    refine Int.natCast_dvd_natCast.2 (Nat.pow_dvd_pow 2 (by omega))
  have e1 : (n % ((2 ^ 64 : Nat) : Int)) % ((2 ^ k : Nat) : Int) = n % ((2 ^ k : Nat) : Int) := Int.emod_emod_of_dvd n hdvd
  have h0 : 0 ≤ n % ((2 ^ 64 : Nat) : Int) := Int.emod_nonneg _ (by decide)
  have e2 : (((n % ((2 ^ 64 : Nat) : Int)).toNat % 2 ^ k : Nat) : Int) = n % ((2 ^ k : Nat) : Int) := by
    rw [Int.natCast_emod, Int.toNat_of_nonneg h0, e1]
  rw [e2]
  have b1 : 0 ≤ n % ((2 ^ k : Nat) : Int) := Int.emod_nonneg _ (by omega)
  have b2 : n % ((2 ^ k : Nat) : Int) < ((2 ^ k : Nat) : Int) := Int.emod_lt_of_pos _ (by omega)
  have b3 : ((2 ^ k : Nat) : Int) ≤ 4611686018427387904 := by
    have : ((2 ^ k : Nat) : Int) ≤ ((2 ^ 62 : Nat) : Int) := by exact_mod_cast hlt
    simpa using this
  generalize n % ((2 ^ k : Nat) : Int) = q at *
  omega
def nrm (x : Cand) : Cand := ⟨x.nm, 1 + x.wt % 32768, x.bz % 65536, x.tm⟩
theorem nrm_ok (x : Cand) : CandOk (nrm x) := by
  unfold CandOk nrm
  simp only
  omega
/-- The first i made small. -/
def mix (i : Nat) (l : List Cand) : List Cand := (l.take i).map nrm ++ l.drop i
theorem mix_zero (l : List Cand) : mix 0 l = l := by simp [mix]
theorem mix_all (l : List Cand) : mix l.length l = l.map nrm := by simp [mix]
theorem mix_at {l : List Cand} {i : Nat} {x : Cand} (h : l[i]? = some x) : (mix i l)[i]? = some x := by
  have hl := (List.getElem?_eq_some_iff.1 h).1
  unfold mix
  rw [List.getElem?_append_right (by simp; omega), List.length_map, List.length_take, Nat.min_eq_left (by omega), Nat.sub_self, List.getElem?_drop, Nat.add_zero]
  exact h
theorem mix_next {l : List Cand} {i : Nat} {x : Cand} (h : l[i]? = some x) : (mix i l).set i (nrm x) = mix (i + 1) l := by
  have hl := (List.getElem?_eq_some_iff.1 h).1
  have hd : l.drop i = x :: l.drop (i + 1) := by rw [List.drop_eq_getElem_cons hl, (List.getElem?_eq_some_iff.1 h).2]
  unfold mix
  have hlen : ((l.take i).map nrm).length = i := by rw [List.length_map, List.length_take, Nat.min_eq_left (by omega)]
  rw [List.set_append_right _ _ (by omega), hlen, Nat.sub_self, hd, List.set_cons_zero, List.take_add_one, h, List.map_append, List.append_assoc]
  rfl
theorem cncs_set {l : List Cand} {i : Nat} {x y : Cand} (h : l[i]? = some x) (hn : y.nm = x.nm) (ht : y.tm = x.tm) : ((cncs l).set (i * 4 + 1) (.int .i64 y.wt)).set (i * 4 + 2) (.int .i64 y.bz) = cncs (l.set i y) := by
  induction l generalizing i with
  | nil => simp at h
  | cons z r ih =>
    cases i with
    | zero =>
      obtain rfl : z = x := by simpa using h
      obtain ⟨yn, yw, yb, yt⟩ := y
      simp only at hn ht
      subst hn ht
      rfl
    | succ i =>
      have e : cncs (z :: r) = cnc z ++ cncs r := by simp [cncs]
      have e2 : cncs ((z :: r).set (i + 1) y) = cnc z ++ cncs (r.set i y) := by simp [cncs]
      rw [e, e2, ← ih (by simpa using h)]
      have hc : (cnc z).length = 4 := rfl
      rw [List.set_append_right _ _ (by omega), List.set_append_right _ _ (by omega), hc, show (i + 1) * 4 + 1 - 4 = i * 4 + 1 by omega, show (i + 1) * 4 + 2 - 4 = i * 4 + 2 by omega]
/-- Who bears less, in whole numbers, bears less. -/
theorem even_lt {a c : Cand} (ha : CandOk a) (hc : CandOk c) : ((c.bz + 1) * a.wt < (a.bz + 1) * c.wt → rk (evenW c) < rk (evenW a)) ∧ ((c.bz + 1) * a.wt = (a.bz + 1) * c.wt → rk (evenW c) = rk (evenW a)) := by
  obtain ⟨⟨a1, a2⟩, a3, a4⟩ := ha
  obtain ⟨⟨c1, c2⟩, c3, c4⟩ := hc
  obtain ⟨_, qa⟩ := loadW_some (b := a.bz.toNat) (k := a.wt.toNat) (by omega) (by omega) (by omega)
  obtain ⟨_, qc⟩ := loadW_some (b := c.bz.toNat) (k := c.wt.toNat) (by omega) (by omega) (by omega)
  obtain ⟨pa, pa2⟩ := loadW_pos (b := a.bz.toNat) (k := a.wt.toNat) (by omega) (by omega) (by omega)
  obtain ⟨pc, pc2⟩ := loadW_pos (b := c.bz.toNat) (k := c.wt.toNat) (by omega) (by omega) (by omega)
  have hrk : ∀ r, r < 9218868437227405312 → rk r = (r : Int) := fun r hr => by
    unfold rk
    rw [if_pos (by unfold Num; rw [(key_norm (by omega)).2]; omega), (key_norm (by omega)).1]
  have e1 : (((c.bz.toNat + 1) * a.wt.toNat : Nat) : Int) = (c.bz + 1) * a.wt := by
    rw [Int.natCast_mul, Int.natCast_add, Int.toNat_of_nonneg c3, Int.toNat_of_nonneg (by omega : 0 ≤ a.wt)]; rfl
  have e2 : (((a.bz.toNat + 1) * c.wt.toNat : Nat) : Int) = (a.bz + 1) * c.wt := by
    rw [Int.natCast_mul, Int.natCast_add, Int.toNat_of_nonneg a3, Int.toNat_of_nonneg (by omega : 0 ≤ c.wt)]; rfl
  rw [← e1, ← e2]
  unfold evenW
  rw [hrk _ pa2, hrk _ pc2]
  constructor
  · intro h
    have hs : (c.bz.toNat + 1) * a.wt.toNat ≤ 65536 * 32768 := Nat.mul_le_mul (by omega) (by omega)
    have := quo_lt qc qa (by omega) (by omega) (by omega) (by omega) (by omega) (by omega) (by omega) (by omega)
    omega
  · intro h
    have := quo_eq qc qa (by omega) (by omega) (by omega)
    omega
/-- What the law asks of the place that was chosen. -/
theorem chosen {l : List Cand} {j : Nat} {a : Cand} (hok : ∀ x ∈ l, CandOk x) (h : LeastOf (l.map evenW) (j : Int)) (ha : l[j]? = some a) : ∀ i c, l[i]? = some c → ¬ ((c.bz + 1) * a.wt < (a.bz + 1) * c.wt) ∧ ((c.bz + 1) * a.wt = (a.bz + 1) * c.wt → ¬ i < j) := by
  intro i c hc
  rcases h with ⟨_, h⟩ | ⟨j', x, hj, hx, hall⟩
  · omega
  · obtain rfl : j = j' := by omega
    rw [List.getElem?_map, ha] at hx
    obtain rfl : evenW a = x := Option.some.inj hx
    obtain ⟨h1, h2⟩ := hall i (evenW c) (by rw [List.getElem?_map, hc]; rfl)
    obtain ⟨g1, g2⟩ := even_lt (hok a (List.mem_of_getElem? ha)) (hok c (List.mem_of_getElem? hc))
    exact ⟨fun h => by have := g1 h; omega, fun h hij => by have := g2 h; have := h2 hij; omega⟩

set_option maxRecDepth 100000 in
set_option maxHeartbeats 4000000 in
theorem whole_calls (A0 : Option Addr) (c0 : Nat) (l : List Cand) (w : World) (hr : Kd.C kCand w A0 l.length l) (hc : l.length ≤ c0) :
    Calls Try.prog 3 #[.slice A0 l.length c0] w fun e w' => e = .returned (.bool true) ∧ Below w.heap.size w w' := by
  obtain ⟨m, hm, hmL⟩ : ∃ m : Nat, (if (20 : Int) < (l.length : Int) then (20 : Int) else (l.length : Int)) = (m : Int) ∧ (m ≤ l.length ∧ m ≤ 20) := by
    by_cases h9 : (20 : Int) < (l.length : Int)
    · exact ⟨20, if_pos h9, by omega, by omega⟩
    · exact ⟨l.length, if_neg h9, by omega, by omega⟩
  have HOWN := Lib.hid (fun w1 (hs : Step (fun _ => False) w w1) => own_calls hr rfl hc (hs.below (Nat.le_refl _) (fun _ h => h.elim)) hm hmL)
  have hlen : (l.take m).length = m := by rw [List.length_take]; omega
  generalize l.take m = xs at *
  generalize l.length = L at *
  clear hr hm hc
  have hm20 := hmL.2
  clear hmL
  go_enter Try.func3, Try.ntmps3
  go_upto_region 4 with (first | (go_at_call 4; refine (awake_calls _).mono ?_; rintro e0 w1 ⟨rfl, hs1⟩) | (go_at_call 5; refine (HOWN.out _ hs1).mono ?_; rintro e1 w2 ⟨B, cB, v2, rfl, hB, hBf, hs2⟩))
  have hs12 := hs1.same hs2
  have hz1 := hs1.size
  have HB := Lib.hid hB
  have HST := Lib.hid hs12
  have HBF := Lib.hid hBf
  have HLEN := Lib.hid hlen
  clear hs1 hs2 hB hBf hs12 HOWN hlen
  go_wp2
  go_loopw [21] (fun v21 wr => ∃ (i : Nat), v21 = .int .i64 (i : Int) ∧ i ≤ m ∧ CSeg wr B m cB (mix i xs) ∧ Step (fun k => blockOf B = some k) w2 wr) (fun v _ => m - (intOf v).toNat)
  case atStart => exact ⟨0, rfl, Nat.zero_le _, by rw [mix_zero]; exact HB.out, Step.refl _ _⟩
  case round =>
    clear HB
    obtain ⟨i, rfl, hi, hB, hst⟩ := hrel
    by_cases hin : i < m
    · have hin' : ((i : Int) < (m : Int)) := by omega
      obtain ⟨g, rfl⟩ := FSeg.isSome hB (by omega)
      obtain ⟨x, hx⟩ : ∃ x, xs[i]? = some x := ⟨_, List.getElem?_eq_getElem (by have := HLEN.out; omega)⟩
      obtain ⟨e0, e1, e2, e3⟩ := cncs_at (mix_at hx)
      have c1 := FSeg.cell hB e1
      have c2 := FSeg.cell hB e2
      have f1 := FSeg.free hB (i * 4 + 1)
      have f2 := FSeg.free hB (i * 4 + 2)
      have b1 : Go.bits .and .i64 x.wt 32767 = x.wt % 32768 := bits_mask x.wt 15 (by omega)
      have b2 : Go.bits .and .i64 x.bz 65535 = x.bz % 65536 := bits_mask x.bz 16 (by omega)
      have n1 : 0 ≤ x.wt % 32768 ∧ x.wt % 32768 < 32768 := ⟨Int.emod_nonneg _ (by decide), Int.emod_lt_of_pos _ (by decide)⟩
      have hB2 : CSeg ((wr.setCell ⟨g, i * 4 + 1, none⟩ (.int .i64 (1 + x.wt % 32768))).setCell ⟨g, i * 4 + 2, none⟩ (.int .i64 (x.bz % 65536))) (some ⟨g, 0, none⟩) m cB (mix (i + 1) xs) := by
        have h2 := FSeg.set (FSeg.set hB (i * 4 + 1) (.int .i64 (1 + x.wt % 32768))) (i * 4 + 2) (.int .i64 (x.bz % 65536))
        have h3 : ((cncs (mix i xs)).set (i * 4 + 1) (.int .i64 (nrm x).wt)).set (i * 4 + 2) (.int .i64 (nrm x).bz) = cncs (mix (i + 1) xs) := by
          rw [cncs_set (y := nrm x) (mix_at hx) rfl rfl, mix_next hx]
        unfold CSeg
        rw [← h3]
        exact h2
      have hst2 : Step (fun k => blockOf (some (⟨g, 0, none⟩ : Addr)) = some k) w2 ((wr.setCell ⟨g, i * 4 + 1, none⟩ (.int .i64 (1 + x.wt % 32768))).setCell ⟨g, i * 4 + 2, none⟩ (.int .i64 (x.bz % 65536))) :=
        (hst.setCell (p := ⟨g, i * 4 + 1, none⟩) (fun _ => rfl) _).setCell (p := ⟨g, i * 4 + 2, none⟩) (fun _ => rfl) _
      have HB2 := Lib.hid hB2
      have HST2 := Lib.hid hst2
      obtain ⟨q1, hq1⟩ : ∃ q, x.wt % 32768 = q := ⟨_, rfl⟩
      obtain ⟨q2, hq2⟩ : ∃ q, x.bz % 65536 = q := ⟨_, rfl⟩
      rw [hq1] at b1 HB2 HST2 n1
      rw [hq2] at b2 HB2 HST2
      obtain ⟨xn, xw, xb, xt⟩ := x
      simp only at c1 c2 b1 b2
      clear hB hst e0 e1 e2 e3 hx hB2 hst2 hq1 hq2
      go_upto_region 7 with (fail)
      go_region
      all_goals
        go_wp2
        go_roundw
        case rel => exact ⟨i + 1, by go_num, by omega, by first | exact HB2.out | exact FSeg.keep HB2.out ((Step.refl (fun _ => False) _).drew) (fun _ _ h => h), by first | exact HST2.out | exact HST2.out.drew⟩
        case measure =>
          simp only [intOf]
          omega
    · have hin' : ¬ ((i : Int) < (m : Int)) := by omega
      obtain rfl : i = m := by omega
      have hB2 : CSeg wr B i cB (xs.map nrm) := by
        have := mix_all xs
        rw [HLEN.out] at this
        rw [← this]; exact hB
      have hok : ∀ x ∈ xs.map nrm, CandOk x := fun x hx => by
        obtain ⟨y, _, rfl⟩ := List.mem_map.1 hx
        exact nrm_ok y
      have hyl : (xs.map nrm).length = i := by rw [List.length_map]; exact HLEN.out
      generalize xs.map nrm = ys at *
      have HLE := Lib.hid (cleast_calls hB2 (by omega) hok)
      have hb0 : Below w.heap.size w wr := (HST.out.below (Nat.le_refl _) (fun _ h => h.elim)).trans (hst.below (HST.out.size) (fun k hk => by have := HBF.out k hk; omega))
      have HBL := Lib.hid hb0
      have HB2 := Lib.hid hB2
      have HOK := Lib.hid hok
      have HYL := Lib.hid hyl
      clear hB hst hB2 hok hb0 hyl HBF HLEN HST
      go_upto_region 10 with (go_at_call 6; refine HLE.out.mono ?_; rintro e2 w3 ⟨v, rfl, hv, hs3⟩)
      have hz3 := hs3.size
      have HV := Lib.hid hv
      have HS3 := Lib.hid hs3
      clear hv hs3 HLE
      by_cases hi0 : i = 0
      · subst hi0
        obtain rfl : ys = [] := List.eq_nil_of_length_eq_zero HYL.out
        obtain rfl : v = -1 := by
          rcases HV.out with ⟨_, h⟩ | ⟨j, x, rfl, hx, _⟩
          · exact h
          · simp at hx
        go_wp2
        go_ret
        exact ⟨rfl, HBL.out.trans (HS3.out.below HBL.out.size (fun _ h => h.elim))⟩
      · have hi0' : ¬ ((i : Int) = 0) := by omega
        obtain ⟨j, rfl, hj, hji⟩ : ∃ j : Nat, v = (j : Int) ∧ LeastOf (ys.map evenW) (j : Int) ∧ j < i := by
          have hh := HV.out
          rcases hh with ⟨h, _⟩ | ⟨j, x, rfl, hx, hall⟩
          · have h1 := congrArg List.length h
            rw [List.length_map, HYL.out] at h1
            simp at h1
            omega
          · have := (List.getElem?_eq_some_iff.1 hx).1
            rw [List.length_map, HYL.out] at this
            exact ⟨j, rfl, .inr ⟨j, x, rfl, hx, hall⟩, this⟩
        obtain ⟨a, ha⟩ : ∃ a, ys[j]? = some a := ⟨_, List.getElem?_eq_getElem (by have := HYL.out; omega)⟩
        have HCH := Lib.hid (chosen HOK.out hj ha)
        obtain ⟨g, rfl⟩ := FSeg.isSome HB2.out (by omega)
        have hB3 : CSeg w3 (some ⟨g, 0, none⟩) i cB ys := FSeg.keep HB2.out HS3.out (fun _ _ h => h)
        obtain ⟨e0, e1, e2, e3⟩ := cncs_at ha
        have c0 := FSeg.cell hB3 e0
        have c1 := FSeg.cell hB3 e1
        have c2 := FSeg.cell hB3 e2
        have c3 := FSeg.cell hB3 e3
        obtain ⟨⟨ao1, ao2⟩, ao3, ao4⟩ := HOK.out a (List.mem_of_getElem? ha)
        have HB3 := Lib.hid hB3
        have hj1 : ¬ ((j : Int) < 0) := by omega
        have hj2 : ((j : Int) < (i : Int)) := by omega
        have hj3 : ((i : Int) ≤ (j : Int)) = False := eq_false (by omega)
        clear hj ha hB3 e0 e1 e2 e3 HB2 HV
        obtain ⟨an, aw, ab, at_⟩ := a
        simp only at c0 c1 c2 c3 ao1 ao2 ao3 ao4 HCH
        go_upto_region 15 with (fail)
        refine alloc_next (cs := [.string an, .int .i64 aw, .int .i64 ab, .float .f64 at_]) ?_
        intro w4 hA4 hs4
        generalize w3.heap.size = abk at *
        have HA4 := Lib.hid hA4
        have hst4 := HS3.out.same hs4
        have HB4 := Lib.hid (FSeg.keep HB3.out hs4 (fun _ _ h => h))
        have HST4 := Lib.hid hst4
        clear hA4 hs4 hst4 c0 c1 c2 c3 HB3 HS3
        go_wp2
        go_loopw [67] (fun v67 wr4 => ∃ (k : Nat), v67 = .int .i64 (k : Int) ∧ k ≤ i ∧ Step (fun _ => False) w4 wr4) (fun v _ => i - (intOf v).toNat)
        case atStart => exact ⟨0, rfl, Nat.zero_le _, Step.refl _ _⟩
        case round =>
          obtain ⟨k, rfl, hk, hst⟩ := hrel
          by_cases hki : k < i
          · have hki' : ((k : Int) < (i : Int)) := by omega
            obtain ⟨x, hx⟩ : ∃ x, ys[k]? = some x := ⟨_, List.getElem?_eq_getElem (by have := HYL.out; omega)⟩
            have hB5 : FSeg _ 29 4 (some ⟨g, 0, none⟩) i cB (cncs ys) := FSeg.keep HB4.out hst (fun _ _ h => h)
            obtain ⟨e0, e1, e2, e3⟩ := cncs_at hx
            have c0 := FSeg.cell hB5 e0
            have c1 := FSeg.cell hB5 e1
            have c2 := FSeg.cell hB5 e2
            have c3 := FSeg.cell hB5 e3
            obtain ⟨⟨xo1, xo2⟩, xo3, xo4⟩ := HOK.out x (List.mem_of_getElem? hx)
            obtain ⟨n1, n2⟩ := HCH.out k x hx
            clear hB5 e0 e1 e2 e3 hx
            obtain ⟨xn, xw, xb, xt⟩ := x
            simp only at c0 c1 c2 c3 xo1 xo2 xo3 xo4 n1 n2
            have HST := Lib.hid hst
            clear hst
            go_upto_region 18 with (fail)
            refine alloc_next (cs := [.string xn, .int .i64 xw, .int .i64 xb, .float .f64 xt]) ?_
            intro w5 hX5 hs5
            have hst5 := HST.out.same hs5
            have hA5 := HA4.out.keep hst5 (fun h => h)
            obtain ⟨xbk, hxbk⟩ : ∃ q, wr.heap.size = q := ⟨_, rfl⟩
            rw [hxbk] at hX5 ⊢
            have x1 := hX5.cell (i := 1) rfl
            have x2 := hX5.cell (i := 2) rfl
            have a1 := hA5.cell (i := 1) rfl
            have a2 := hA5.cell (i := 2) rfl
            have HST5 := Lib.hid hst5
            clear hX5 hA5 hs5 hst5 c0 c1 c2 c3 hxbk
            have hb1 : 0 ≤ (xb + 1) * aw ∧ (xb + 1) * aw ≤ 2147483648 := ⟨Int.mul_nonneg (by omega) (by omega), by
              have h1 : (xb + 1) * aw ≤ 65536 * aw := Int.mul_le_mul_of_nonneg_right (by omega) (by omega)
              omega⟩
            have hb2 : 0 ≤ (ab + 1) * xw ∧ (ab + 1) * xw ≤ 2147483648 := ⟨Int.mul_nonneg (by omega) (by omega), by
              have h1 : (ab + 1) * xw ≤ 65536 * xw := Int.mul_le_mul_of_nonneg_right (by omega) (by omega)
              omega⟩
            obtain ⟨X, hX⟩ : ∃ X, (xb + 1) * aw = X := ⟨_, rfl⟩
            obtain ⟨Y, hY⟩ : ∃ Y, (ab + 1) * xw = Y := ⟨_, rfl⟩
            rw [hX] at hb1 n1 n2
            rw [hY] at hb2 n1 n2
            have q1 : (X < Y) = False := eq_false (by omega)
            go_quiet (fail)
            have hst6 := HST5.out.drewN nq
            generalize w5.drewN nq = w6 at *
            by_cases hxy : X = Y
            · have q2 : ((k : Int) < (j : Int)) = False := eq_false (by have := n2 hxy; omega)
              go_wp2
              go_roundw
              case rel => exact ⟨k + 1, by go_num, by omega, hst6⟩
              case measure =>
                simp only [intOf]
                omega
            · go_wp2
              go_roundw
              case rel => exact ⟨k + 1, by go_num, by omega, hst6⟩
              case measure =>
                simp only [intOf]
                omega
          · have hki' : ¬ ((k : Int) < (i : Int)) := by omega
            have HST := Lib.hid hst
            clear hst
            go_wp2
            go_ret
            exact ⟨rfl, HBL.out.trans ((HST4.out.same HST.out).below HBL.out.size (fun _ h => h.elim))⟩
end Go.Proofs.Ythlllmnlcjkiiaa.Cho
