/- The walk of stewardlaw21.ProbeRows. Own work of this seat. -/
import Derived.Test.YtlmppdpjjkdoaaaKit
import Derived.Deep.RegionHeld3
import Derived.WalkSpells
import Derived.Test.YtlmppdpjjkdoaaaPProbeRowsx4
namespace Go.Proofs.Ytlmppdpjjkdoaaa.Probe
open Go.RowKit Go.Proofs.Ytlmppdpjjkdoaaa.Kit Go.Proofs.Ytlmppdpjjkdoaaa.PProbeRows Go.Proofs.YtlmppdpjjkdoaaaW.PrintWords Go.Proofs.YtlmppdpjjkdoaaaW.PrintLast Go.Proofs.YtlmppdpjjkdoaaaW.PrintMore
set_option linter.unusedVariables false
set_option linter.unusedSimpArgs false

theorem rows_awake : stewardlaw21_awake.f 40 = some true := by decide +kernel

theorem rows_wrap {x : Int} (h0 : -9223372036854775808 ≤ x) (h1 : x ≤ 9223372036854775807) : wrap64 x = x := by
  unfold wrap64; omega

theorem rows_and7 (n : Int) : Go.bits .and .i64 n 7 = n % 8 := by
  have h7 : (BitVec.ofInt 64 7).toNat = 2 ^ 3 - 1 := by decide
  have key : (BitVec.ofInt 64 n &&& BitVec.ofInt 64 7).toNat = (n % ((2 ^ 64 : Nat) : Int)).toNat % 2 ^ 3 := by
    rw [BitVec.toNat_and, BitVec.toNat_ofInt, h7, Nat.and_two_pow_sub_one_eq_mod]
  show IntKind.i64.wrap ((BitVec.ofInt 64 n &&& BitVec.ofInt 64 7).toNat : Nat) = n % 8
  rw [key, IntKind.wrap_i64]
  omega

theorem mx_of_lt {a b : Int} (h : a < b) : mx a b = b := by unfold mx; rw [if_pos h]
theorem mn_of_ge {a b : Int} (h : a ≤ b) : mn a b = a := by unfold mn; rw [if_neg (by omega)]

theorem clip_is (r f : Int) (hr : 1 ≤ r) (hr8 : r ≤ 8) (hf : 1 ≤ f) (hf8 : f ≤ 8) : probe_Config_Clip.f 0 0 r f = some (1, 1, r, f) := by
  have h1 : ∀ x m : Int, 1 ≤ x → x ≤ 8 → 8 ≤ m → mx 1 (mn x m) = x := by
    intro x m h1 h2 h3
    rw [mn_of_ge (by omega)]
    rcases Int.lt_or_eq_of_le h1 with h | h
    · exact mx_of_lt h
    · rw [← h]; rfl
  have h0 : mx 1 (mn 0 1048576) = 1 := by decide
  simp only [probe_Config_Clip.f, probe_clip.f, h0, Option.bind_some, h1 r 1000 hr hr8 (by omega), h1 f 1000 hf hf8 (by omega)]

theorem row_is (n want : Int) (h0 : 0 ≤ n) (h1 : n < want) (h2 : want ≤ 8) : probe_row.f n want = if n + 1 = want then some (0, true) else some (n + 1, false) := by
  have hm : mx 0 n = n := by
    rcases Int.lt_or_eq_of_le h0 with h | h
    · exact mx_of_lt h
    · rw [← h]; rfl
  unfold probe_row.f
  rw [hm, rows_wrap (by omega) (by omega)]
  by_cases h : n + 1 = want
  · rw [if_pos (by omega), if_pos h]
  · rw [if_neg (by omega), if_neg (by omega), if_neg h]

theorem clip0 (r f : Int) (hr : 1 ≤ r) (hr8 : r ≤ 8) (hf : 1 ≤ f) (hf8 : f ≤ 8) (k : Nat) (up g : Bool) (G B s now : Int) :
    probe_Probe_Result.f k up G B s 0 0 r f g now = (if g = true then probe_Probe_Result.j0 k g now false (!up) up G B s 1 1 r f else probe_Probe_Result.j0 k g now false false up G B s 1 1 r f) := by
  unfold probe_Probe_Result.f
  rw [clip_is r f hr hr8 hf hf8]
  rfl

/-- What is counted: the goods where it is down, the bads where it is up. -/
def gd (up : Bool) (c : Int) : Int := if up then 0 else c
def bd (up : Bool) (c : Int) : Int := if up then c else 0
def want (up : Bool) (rise fall : Int) : Int := if up then fall else rise
def nxU (up g : Bool) (c rise fall : Int) : Bool := if g = up then up else if c + 1 = want up rise fall then g else up
def nxC (up g : Bool) (c rise fall : Int) : Int := if g = up then 0 else if c + 1 = want up rise fall then 0 else c + 1
def nxI (up g : Bool) (c rise fall : Int) : Bool := if g = up then false else if c + 1 = want up rise fall then true else false
def nxS (up g : Bool) (c rise fall s now : Int) : Int := if nxI up g c rise fall then now else s

theorem result_is (up g : Bool) (c s rise fall now : Int) (hr : 1 ≤ rise) (hr8 : rise ≤ 8) (hf : 1 ≤ fall) (hf8 : fall ≤ 8) (hc : 0 ≤ c) (hc' : c < want up rise fall) :
    probe_Probe_Result.f 6 up (gd up c) (bd up c) s 0 0 rise fall g now = some (nxU up g c rise fall, gd (nxU up g c rise fall) (nxC up g c rise fall), bd (nxU up g c rise fall) (nxC up g c rise fall), nxS up g c rise fall s now, nxI up g c rise fall) := by
  rw [clip0 rise fall hr hr8 hf hf8]
  have e1 : wrap64 (0 : Int) = 0 := rows_wrap (by omega) (by omega)
  cases up <;> cases g <;> simp [want] at hc' <;> simp [gd, bd, nxU, nxC, nxI, nxS, want, probe_Probe_Result.j0, probe_Probe_Result.j1, row_is c rise hc, row_is c fall hc, hc', hr8, hf8] <;> split <;> simp_all [probe_Probe_Result.j1]

theorem result_calls (up g : Bool) (c s rise fall now : Int) (hr : 1 ≤ rise) (hr8 : rise ≤ 8) (hf : 1 ≤ fall) (hf8 : fall ≤ 8) (hc : 0 ≤ c) (hc' : c < want up rise fall) (w : World) :
    Calls Try.prog 16 #[.agg #[.bool up, .int .i64 (gd up c), .int .i64 (bd up c), .int .i64 s], .agg #[.int .i64 0, .int .i64 0, .int .i64 rise, .int .i64 fall], .bool g, .int .i64 now] w fun e w' => e = .returned (.tuple #[.agg #[.bool (nxU up g c rise fall), .int .i64 (gd (nxU up g c rise fall) (nxC up g c rise fall)), .int .i64 (bd (nxU up g c rise fall) (nxC up g c rise fall)), .int .i64 (nxS up g c rise fall s now)], .bool (nxI up g c rise fall)]) ∧ Below w.heap.size w w' :=
  probe_Probe_Result.calls 6 up (gd up c) (bd up c) s 0 0 rise fall g now _ _ _ _ _ w (result_is up g c s rise fall now hr hr8 hf hf8 hc hc')

theorem world_hide {F : World → Prop} {W wr : World} {q : Nat} {T : TypeId} {cs : List Value} (hB : Blk W q T cs) (hS : Step (fun _ => False) wr W) (k : ∀ W', Blk W' q T cs → Step (fun _ => False) wr W' → F W') : F W := k W hB hS

set_option maxRecDepth 100000 in
set_option maxHeartbeats 40000000 in
theorem rows_calls (up : Bool) (rise0 fall0 : Int) (A : Option Addr) (c : Nat) (l : List Bool) (w : World) (hr0 : Kd.C Kd.bool w A l.length l) (hc0 : l.length ≤ c) :
    Calls Try.prog 4 #[.agg #[.bool up, .int .i64 rise0, .int .i64 fall0, .slice A l.length c]] w fun e w' => e = .returned (.bool true) ∧ Below w.heap.size w w' := by
  have e7 := rows_and7 rise0
  have e8 := rows_and7 fall0
  go_enter Try.func4, Try.ntmps4
  go_upto_region 1 with (fail)
  refine alloc_next (cs := [.bool up, .int .i64 rise0, .int .i64 fall0, .slice A l.length c]) ?_
  intro w1 hK1 hs1
  generalize hkbe : w.heap.size = kb at hK1 ⊢
  have Hkb := Lib.hid hkbe
  clear hkbe
  go_wp2_with fail
  refine (stewardlaw21_awake.calls 40 true _ rows_awake).mono ?_
  rintro e w2 ⟨rfl, hb2⟩
  have hS0 : Step (fun _ => False) w1 w2 := (Step.of_below hb2)
  have hS : Step (fun _ => False) w w2 := hs1.same hS0
  have hK := hK1.keep hS0 (fun h => h)
  clear hb2 hS0 hs1 hK1
  have c0 := hK.cell (i := 0) rfl
  have c1 := hK.cell (i := 1) rfl
  have c2 := hK.cell (i := 2) rfl
  have c3 := hK.cell (i := 3) rfl
  go_upto_region 3 with (fail)
  go_quiet (fail)
  go_wp2_with (go_at_call 21; refine (probe_New.calls _ _ _ _ _ _ _ rfl).mono ?_; rintro e w3 ⟨rfl, hb3⟩)
  refine alloc_next2 (cs := [.bool up, .int .i64 0, .int .i64 0, .int .i64 0]) (ds := [.int .i64 0, .int .i64 0, .int .i64 (1 + rise0 % 8), .int .i64 (1 + fall0 % 8)]) ?_
  intro w4 hP hC hs4 hsz4
  have hS4 : Step (fun _ => False) w w4 := ((hS.drewN nq).then_below hb3).same (hs4.mono (fun _ _ h => h))
  have hge : w.heap.size ≤ w3.heap.size := ((hS.drewN nq).then_below hb3).size
  have hr4 := Kd.C_below hr0 (hS4.below (Nat.le_refl _) (fun _ h => h.elim))
  rw [Hkb.out] at hge
  clear hb3 hS hK c0 c1 c2 c3 e7 e8 hs4
  have hq1 : 1 ≤ 1 + rise0 % 8 := by omega
  have hq2 : 1 + rise0 % 8 ≤ 8 := by omega
  have hq3 : 1 ≤ 1 + fall0 % 8 := by omega
  have hq4 : 1 + fall0 % 8 ≤ 8 := by omega
  generalize 1 + rise0 % 8 = rise at *
  generalize 1 + fall0 % 8 = fall at *
  generalize w3.heap.size = kp at *
  have hmax : l.length ≤ 9223372036854775807 := hr4.2.1
  go_loopw [5, 9, 10] (fun u n i wr => ∃ (k : Nat) (up : Bool) (cn s : Int), k ≤ l.length ∧ k ≤ 80 ∧ i = .int .i64 k ∧ u = .bool up ∧ n = .int .i64 cn ∧ 0 ≤ cn ∧ cn < want up rise fall ∧ Blk wr kp 28 [.bool up, .int .i64 (gd up cn), .int .i64 (bd up cn), .int .i64 s] ∧ Blk wr (kp + 1) 31 [.int .i64 0, .int .i64 0, .int .i64 rise, .int .i64 fall] ∧ Step (fun _ => False) w wr) (fun _ _ i _ => l.length - (intOf i).toNat)
  case atStart =>
    refine ⟨0, up, 0, 0, by omega, by omega, rfl, rfl, rfl, by omega, by unfold want; split <;> omega, ?_, hC, hS4⟩
    have e0 : gd up 0 = 0 := by unfold gd; split <;> rfl
    have e1 : bd up 0 = 0 := by unfold bd; split <;> rfl
    rw [e0, e1]
    exact hP
  case round =>
    obtain ⟨k, up, cn, s, hkl, hk80, rfl, rfl, rfl, hcn, hcn2, hP, hC, hS⟩ := hrel
    have hr5 := Kd.C_below hr0 (hS.below (Nat.le_refl _) (fun _ h => h.elim))
    have hszw : w.heap.size ≤ wr.heap.size := hS.size
    rw [Hkb.out] at hszw
    by_cases hlt : k < l.length
    · by_cases hlt80 : k < 80
      · obtain ⟨ad, e, hcell⟩ := Kd.at_bool hr5 (k : Int) (by omega) (by omega)
        subst e
        have hrd : rdOf false l (k : Int) = l[k] := by simp [rdOf, hlt]
        rw [hrd, Int.toNat_natCast] at hcell
        generalize l[k] = g at *
        have hcn8 : cn < 8 := by unfold want at hcn2; split at hcn2 <;> omega
        cases up
        · have hcr : cn < rise := hcn2
          cases g
          · have hw : True := trivial
            have e1 : nxU false false cn rise fall = false := by simp [nxU, want]
            have e2 : nxC false false cn rise fall = 0 := by simp [nxC, want]
            have e3 : nxI false false cn rise fall = false := by simp [nxI, want]
            have e4 : nxS false false cn rise fall s (k : Int) = s := by simp [nxS, e3]
            have Hr0 : ∀ W, Calls Try.prog 16 #[.agg #[.bool false, .int .i64 (cn), .int .i64 (0), .int .i64 s], .agg #[.int .i64 0, .int .i64 0, .int .i64 rise, .int .i64 fall], .bool false, .int .i64 (k : Int)] W fun e w' => e = .returned (.tuple #[.agg #[.bool false, .int .i64 (0), .int .i64 (0), .int .i64 (s)], .bool false]) ∧ Below W.heap.size W w' := fun W => by
              have := result_calls false false cn s rise fall (k : Int) hq1 hq2 hq3 hq4 hcn hcn2 W
              rw [e1, e2, e3, e4] at this
              exact this
            have Hres := Lib.hid Hr0
            clear Hr0 e1 e2 e3 e4
            have Hmk : ∀ W, Step (fun _ => False) wr W → Step (fun _ => False) wr W ∧ W.cell? ⟨kp, 0, none⟩ = some (.bool false) ∧ W.cell? ⟨kp, 1, none⟩ = some (.int .i64 cn) ∧ W.cell? ⟨kp, 2, none⟩ = some (.int .i64 0) ∧ W.cell? ⟨kp, 3, none⟩ = some (.int .i64 s) ∧ W.cell? ⟨kp + 1, 0, none⟩ = some (.int .i64 0) ∧ W.cell? ⟨kp + 1, 1, none⟩ = some (.int .i64 0) ∧ W.cell? ⟨kp + 1, 2, none⟩ = some (.int .i64 rise) ∧ W.cell? ⟨kp + 1, 3, none⟩ = some (.int .i64 fall) ∧ W.cell? (ad.add k) = some (.bool false) := fun W h => ⟨h, (hP.keep h (fun h => h)).cell (i := 0) rfl, (hP.keep h (fun h => h)).cell (i := 1) rfl, (hP.keep h (fun h => h)).cell (i := 2) rfl, (hP.keep h (fun h => h)).cell (i := 3) rfl, (hC.keep h (fun h => h)).cell (i := 0) rfl, (hC.keep h (fun h => h)).cell (i := 1) rfl, (hC.keep h (fun h => h)).cell (i := 2) rfl, (hC.keep h (fun h => h)).cell (i := 3) rfl, cell_later (h.below (Nat.le_refl _) (fun _ h => h.elim)) hcell⟩
            have HMK := Lib.hid Hmk
            clear Hmk
            have hst0 : Step (fun _ => False) wr wr := Step.refl _ _
            go_upto_region 13 with (fail)
            go_region_held3 (fun W => Step (fun _ => False) wr W ∧ W.cell? ⟨kp, 0, none⟩ = some (.bool false) ∧ W.cell? ⟨kp, 1, none⟩ = some (.int .i64 cn) ∧ W.cell? ⟨kp, 2, none⟩ = some (.int .i64 0) ∧ W.cell? ⟨kp, 3, none⟩ = some (.int .i64 s) ∧ W.cell? ⟨kp + 1, 0, none⟩ = some (.int .i64 0) ∧ W.cell? ⟨kp + 1, 1, none⟩ = some (.int .i64 0) ∧ W.cell? ⟨kp + 1, 2, none⟩ = some (.int .i64 rise) ∧ W.cell? ⟨kp + 1, 3, none⟩ = some (.int .i64 fall) ∧ W.cell? (ad.add k) = some (.bool false))
              ((refine HMK.out _ ?_; first | exact Step.drew hst0 | exact Step.then_below (Step.drew hst0) hb5 | exact Step.then_below (Step.drew (Step.alloc hst0 _)) hb5 | exact Step.alloc (Step.then_below (Step.drew hst0) hb5) _ | exact Step.drew (Step.alloc hst0 _) | exact (((((Step.then_below (Step.drew (Step.alloc hst0 _)) hb5).setCell (fun h => absurd h (Nat.lt_irrefl _)) _).setCell (fun h => absurd h (Nat.lt_irrefl _)) _).setCell (fun h => absurd h (Nat.lt_irrefl _)) _).setCell (fun h => absurd h (Nat.lt_irrefl _)) _) | exact (((((Step.alloc (Step.then_below (Step.drew hst0) hb5) _).setCell (fun h => absurd h (Nat.not_lt.2 (Step.size (Step.then_below (Step.drew hst0) hb5)))) _).setCell (fun h => absurd h (Nat.not_lt.2 (Step.size (Step.then_below (Step.drew hst0) hb5)))) _).setCell (fun h => absurd h (Nat.not_lt.2 (Step.size (Step.then_below (Step.drew hst0) hb5)))) _).setCell (fun h => absurd h (Nat.not_lt.2 (Step.size (Step.then_below (Step.drew hst0) hb5)))) _)))
              (first | (go_at_call 16; refine (Hres.out _).mono ?_; rintro e w5 ⟨rfl, hb5⟩; try (have hx := (blk_new wr [.bool false, .int .i64 0, .int .i64 0, .int .i64 0] 28).drew.keep (Step.of_below (F := fun _ => False) hb5) (fun h => h); have x0 := hx.cell (i := 0) rfl; have x1 := hx.cell (i := 1) rfl; have x2 := hx.cell (i := 2) rfl; have x3 := hx.cell (i := 3) rfl; have f0 := hx.free 0; have f1 := hx.free 1; have f2 := hx.free 2; have f3 := hx.free 3)))
            all_goals
              first
                | (refine world_hide (q := wr.heap.size) (wr := wr) (T := 28) (cs := [.bool false, .int .i64 (0), .int .i64 (0), .int .i64 (s)]) ((((hx.set 0 _).set 1 _).set 2 _).set 3 _) ((((((Step.then_below (Step.drew (Step.alloc hst0 _)) hb5).setCell (fun h => absurd h (Nat.lt_irrefl _)) _).setCell (fun h => absurd h (Nat.lt_irrefl _)) _).setCell (fun h => absurd h (Nat.lt_irrefl _)) _).setCell (fun h => absurd h (Nat.lt_irrefl _)) _)) ?_; clear hx x0 x1 x2 x3 f0 f1 f2 f3)
                | (refine world_hide (q := w5.heap.size) (wr := wr) (T := 28) (cs := [.bool false, .int .i64 (0), .int .i64 (0), .int .i64 (s)]) (blk_new w5 [.bool false, .int .i64 (0), .int .i64 (0), .int .i64 (s)] _) (Step.alloc (Step.then_below (Step.drew hst0) hb5) _) ?_)
                | (refine world_hide (q := w5.heap.size) (wr := wr) (T := 28) (cs := [.bool false, .int .i64 (0), .int .i64 (0), .int .i64 (s)]) (((((blk_new w5 [.bool false, .int .i64 0, .int .i64 0, .int .i64 0] _).set 0 _).set 1 _).set 2 _).set 3 _) ((((((Step.alloc (Step.then_below (Step.drew hst0) hb5) _).setCell (fun h => absurd h (Nat.not_lt.2 (Step.size (Step.then_below (Step.drew hst0) hb5)))) _).setCell (fun h => absurd h (Nat.not_lt.2 (Step.size (Step.then_below (Step.drew hst0) hb5)))) _).setCell (fun h => absurd h (Nat.not_lt.2 (Step.size (Step.then_below (Step.drew hst0) hb5)))) _).setCell (fun h => absurd h (Nat.not_lt.2 (Step.size (Step.then_below (Step.drew hst0) hb5)))) _)) ?_)
            all_goals
              intro w6 hQ hS6
              have hP6 := hP.keep hS6 (fun h => h)
              have hC6 := hC.keep hS6 (fun h => h)
              have hc6 := cell_later (hS6.below (Nat.le_refl _) (fun _ h => h.elim)) hcell
              have hS7 := hS.same hS6
              have q0 := hQ.cell (i := 0) rfl
              have q1 := hQ.cell (i := 1) rfl
              have q2 := hQ.cell (i := 2) rfl
              have q3 := hQ.cell (i := 3) rfl
              clear hb5 HMK Hres hst0 hP hC hcell hQ hS hS6
              have p0 := hP6.cell (i := 0) rfl
              have p1 := hP6.cell (i := 1) rfl
              have p2 := hP6.cell (i := 2) rfl
              have p3 := hP6.cell (i := 3) rfl
              have f0 := hP6.free 0
              have f1 := hP6.free 1
              have f2 := hP6.free 2
              have f3 := hP6.free 3
              have hgek : w.heap.size ≤ kp := by rw [Hkb.out]; exact hge
              go_wp2
              go_roundw
              case rel =>
                refine ⟨k + 1, false, 0, s, by omega, by omega, by go_num, rfl, rfl, by omega, by unfold want; first | (simp; omega) | omega, (((hP6.set 0 _).set 1 _).set 2 _).set 3 _, hC6.keep (((((Step.refl (· = kp) _).setCell (fun _ => rfl) _).setCell (fun _ => rfl) _).setCell (fun _ => rfl) _).setCell (fun _ => rfl) _) (by omega), ((((hS7.setCell (fun h => absurd h (Nat.not_lt.2 hgek)) _).setCell (fun h => absurd h (Nat.not_lt.2 hgek)) _).setCell (fun h => absurd h (Nat.not_lt.2 hgek)) _).setCell (fun h => absurd h (Nat.not_lt.2 hgek)) _)⟩
              case measure => simp [intOf]; omega
          · by_cases he : cn + 1 = rise
            · have hw : True := trivial
              have e1 : nxU false true cn rise fall = true := by simp [nxU, want, he]
              have e2 : nxC false true cn rise fall = 0 := by simp [nxC, want, he]
              have e3 : nxI false true cn rise fall = true := by simp [nxI, want, he]
              have e4 : nxS false true cn rise fall s (k : Int) = (k : Int) := by simp [nxS, e3]
              have Hr0 : ∀ W, Calls Try.prog 16 #[.agg #[.bool false, .int .i64 (cn), .int .i64 (0), .int .i64 s], .agg #[.int .i64 0, .int .i64 0, .int .i64 rise, .int .i64 fall], .bool true, .int .i64 (k : Int)] W fun e w' => e = .returned (.tuple #[.agg #[.bool true, .int .i64 (0), .int .i64 (0), .int .i64 ((k : Int))], .bool true]) ∧ Below W.heap.size W w' := fun W => by
                have := result_calls false true cn s rise fall (k : Int) hq1 hq2 hq3 hq4 hcn hcn2 W
                rw [e1, e2, e3, e4] at this
                exact this
              have Hres := Lib.hid Hr0
              clear Hr0 e1 e2 e3 e4
              have Hmk : ∀ W, Step (fun _ => False) wr W → Step (fun _ => False) wr W ∧ W.cell? ⟨kp, 0, none⟩ = some (.bool false) ∧ W.cell? ⟨kp, 1, none⟩ = some (.int .i64 cn) ∧ W.cell? ⟨kp, 2, none⟩ = some (.int .i64 0) ∧ W.cell? ⟨kp, 3, none⟩ = some (.int .i64 s) ∧ W.cell? ⟨kp + 1, 0, none⟩ = some (.int .i64 0) ∧ W.cell? ⟨kp + 1, 1, none⟩ = some (.int .i64 0) ∧ W.cell? ⟨kp + 1, 2, none⟩ = some (.int .i64 rise) ∧ W.cell? ⟨kp + 1, 3, none⟩ = some (.int .i64 fall) ∧ W.cell? (ad.add k) = some (.bool true) := fun W h => ⟨h, (hP.keep h (fun h => h)).cell (i := 0) rfl, (hP.keep h (fun h => h)).cell (i := 1) rfl, (hP.keep h (fun h => h)).cell (i := 2) rfl, (hP.keep h (fun h => h)).cell (i := 3) rfl, (hC.keep h (fun h => h)).cell (i := 0) rfl, (hC.keep h (fun h => h)).cell (i := 1) rfl, (hC.keep h (fun h => h)).cell (i := 2) rfl, (hC.keep h (fun h => h)).cell (i := 3) rfl, cell_later (h.below (Nat.le_refl _) (fun _ h => h.elim)) hcell⟩
              have HMK := Lib.hid Hmk
              clear Hmk
              have hst0 : Step (fun _ => False) wr wr := Step.refl _ _
              go_upto_region 13 with (fail)
              go_region_held3 (fun W => Step (fun _ => False) wr W ∧ W.cell? ⟨kp, 0, none⟩ = some (.bool false) ∧ W.cell? ⟨kp, 1, none⟩ = some (.int .i64 cn) ∧ W.cell? ⟨kp, 2, none⟩ = some (.int .i64 0) ∧ W.cell? ⟨kp, 3, none⟩ = some (.int .i64 s) ∧ W.cell? ⟨kp + 1, 0, none⟩ = some (.int .i64 0) ∧ W.cell? ⟨kp + 1, 1, none⟩ = some (.int .i64 0) ∧ W.cell? ⟨kp + 1, 2, none⟩ = some (.int .i64 rise) ∧ W.cell? ⟨kp + 1, 3, none⟩ = some (.int .i64 fall) ∧ W.cell? (ad.add k) = some (.bool true))
                ((refine HMK.out _ ?_; first | exact Step.drew hst0 | exact Step.then_below (Step.drew hst0) hb5 | exact Step.then_below (Step.drew (Step.alloc hst0 _)) hb5 | exact Step.alloc (Step.then_below (Step.drew hst0) hb5) _ | exact Step.drew (Step.alloc hst0 _) | exact (((((Step.then_below (Step.drew (Step.alloc hst0 _)) hb5).setCell (fun h => absurd h (Nat.lt_irrefl _)) _).setCell (fun h => absurd h (Nat.lt_irrefl _)) _).setCell (fun h => absurd h (Nat.lt_irrefl _)) _).setCell (fun h => absurd h (Nat.lt_irrefl _)) _) | exact (((((Step.alloc (Step.then_below (Step.drew hst0) hb5) _).setCell (fun h => absurd h (Nat.not_lt.2 (Step.size (Step.then_below (Step.drew hst0) hb5)))) _).setCell (fun h => absurd h (Nat.not_lt.2 (Step.size (Step.then_below (Step.drew hst0) hb5)))) _).setCell (fun h => absurd h (Nat.not_lt.2 (Step.size (Step.then_below (Step.drew hst0) hb5)))) _).setCell (fun h => absurd h (Nat.not_lt.2 (Step.size (Step.then_below (Step.drew hst0) hb5)))) _)))
                (first | (go_at_call 16; refine (Hres.out _).mono ?_; rintro e w5 ⟨rfl, hb5⟩; try (have hx := (blk_new wr [.bool false, .int .i64 0, .int .i64 0, .int .i64 0] 28).drew.keep (Step.of_below (F := fun _ => False) hb5) (fun h => h); have x0 := hx.cell (i := 0) rfl; have x1 := hx.cell (i := 1) rfl; have x2 := hx.cell (i := 2) rfl; have x3 := hx.cell (i := 3) rfl; have f0 := hx.free 0; have f1 := hx.free 1; have f2 := hx.free 2; have f3 := hx.free 3)))
              all_goals
                first
                  | (refine world_hide (q := wr.heap.size) (wr := wr) (T := 28) (cs := [.bool true, .int .i64 (0), .int .i64 (0), .int .i64 ((k : Int))]) ((((hx.set 0 _).set 1 _).set 2 _).set 3 _) ((((((Step.then_below (Step.drew (Step.alloc hst0 _)) hb5).setCell (fun h => absurd h (Nat.lt_irrefl _)) _).setCell (fun h => absurd h (Nat.lt_irrefl _)) _).setCell (fun h => absurd h (Nat.lt_irrefl _)) _).setCell (fun h => absurd h (Nat.lt_irrefl _)) _)) ?_; clear hx x0 x1 x2 x3 f0 f1 f2 f3)
                  | (refine world_hide (q := w5.heap.size) (wr := wr) (T := 28) (cs := [.bool true, .int .i64 (0), .int .i64 (0), .int .i64 ((k : Int))]) (blk_new w5 [.bool true, .int .i64 (0), .int .i64 (0), .int .i64 ((k : Int))] _) (Step.alloc (Step.then_below (Step.drew hst0) hb5) _) ?_)
                  | (refine world_hide (q := w5.heap.size) (wr := wr) (T := 28) (cs := [.bool true, .int .i64 (0), .int .i64 (0), .int .i64 ((k : Int))]) (((((blk_new w5 [.bool false, .int .i64 0, .int .i64 0, .int .i64 0] _).set 0 _).set 1 _).set 2 _).set 3 _) ((((((Step.alloc (Step.then_below (Step.drew hst0) hb5) _).setCell (fun h => absurd h (Nat.not_lt.2 (Step.size (Step.then_below (Step.drew hst0) hb5)))) _).setCell (fun h => absurd h (Nat.not_lt.2 (Step.size (Step.then_below (Step.drew hst0) hb5)))) _).setCell (fun h => absurd h (Nat.not_lt.2 (Step.size (Step.then_below (Step.drew hst0) hb5)))) _).setCell (fun h => absurd h (Nat.not_lt.2 (Step.size (Step.then_below (Step.drew hst0) hb5)))) _)) ?_)
              all_goals
                intro w6 hQ hS6
                have hP6 := hP.keep hS6 (fun h => h)
                have hC6 := hC.keep hS6 (fun h => h)
                have hc6 := cell_later (hS6.below (Nat.le_refl _) (fun _ h => h.elim)) hcell
                have hS7 := hS.same hS6
                have q0 := hQ.cell (i := 0) rfl
                have q1 := hQ.cell (i := 1) rfl
                have q2 := hQ.cell (i := 2) rfl
                have q3 := hQ.cell (i := 3) rfl
                clear hb5 HMK Hres hst0 hP hC hcell hQ hS hS6
                have p0 := hP6.cell (i := 0) rfl
                have p1 := hP6.cell (i := 1) rfl
                have p2 := hP6.cell (i := 2) rfl
                have p3 := hP6.cell (i := 3) rfl
                have f0 := hP6.free 0
                have f1 := hP6.free 1
                have f2 := hP6.free 2
                have f3 := hP6.free 3
                have hgek : w.heap.size ≤ kp := by rw [Hkb.out]; exact hge
                go_wp2
                go_roundw
                case rel =>
                  refine ⟨k + 1, true, 0, (k : Int), by omega, by omega, by go_num, rfl, rfl, by omega, by unfold want; first | (simp; omega) | omega, (((hP6.set 0 _).set 1 _).set 2 _).set 3 _, hC6.keep (((((Step.refl (· = kp) _).setCell (fun _ => rfl) _).setCell (fun _ => rfl) _).setCell (fun _ => rfl) _).setCell (fun _ => rfl) _) (by omega), ((((hS7.setCell (fun h => absurd h (Nat.not_lt.2 hgek)) _).setCell (fun h => absurd h (Nat.not_lt.2 hgek)) _).setCell (fun h => absurd h (Nat.not_lt.2 hgek)) _).setCell (fun h => absurd h (Nat.not_lt.2 hgek)) _)⟩
                case measure => simp [intOf]; omega
            · have hw : True := trivial
              have e1 : nxU false true cn rise fall = false := by simp [nxU, want, he]
              have e2 : nxC false true cn rise fall = cn + 1 := by simp [nxC, want, he]
              have e3 : nxI false true cn rise fall = false := by simp [nxI, want, he]
              have e4 : nxS false true cn rise fall s (k : Int) = s := by simp [nxS, e3]
              have Hr0 : ∀ W, Calls Try.prog 16 #[.agg #[.bool false, .int .i64 (cn), .int .i64 (0), .int .i64 s], .agg #[.int .i64 0, .int .i64 0, .int .i64 rise, .int .i64 fall], .bool true, .int .i64 (k : Int)] W fun e w' => e = .returned (.tuple #[.agg #[.bool false, .int .i64 (cn + 1), .int .i64 (0), .int .i64 (s)], .bool false]) ∧ Below W.heap.size W w' := fun W => by
                have := result_calls false true cn s rise fall (k : Int) hq1 hq2 hq3 hq4 hcn hcn2 W
                rw [e1, e2, e3, e4] at this
                exact this
              have Hres := Lib.hid Hr0
              clear Hr0 e1 e2 e3 e4
              have Hmk : ∀ W, Step (fun _ => False) wr W → Step (fun _ => False) wr W ∧ W.cell? ⟨kp, 0, none⟩ = some (.bool false) ∧ W.cell? ⟨kp, 1, none⟩ = some (.int .i64 cn) ∧ W.cell? ⟨kp, 2, none⟩ = some (.int .i64 0) ∧ W.cell? ⟨kp, 3, none⟩ = some (.int .i64 s) ∧ W.cell? ⟨kp + 1, 0, none⟩ = some (.int .i64 0) ∧ W.cell? ⟨kp + 1, 1, none⟩ = some (.int .i64 0) ∧ W.cell? ⟨kp + 1, 2, none⟩ = some (.int .i64 rise) ∧ W.cell? ⟨kp + 1, 3, none⟩ = some (.int .i64 fall) ∧ W.cell? (ad.add k) = some (.bool true) := fun W h => ⟨h, (hP.keep h (fun h => h)).cell (i := 0) rfl, (hP.keep h (fun h => h)).cell (i := 1) rfl, (hP.keep h (fun h => h)).cell (i := 2) rfl, (hP.keep h (fun h => h)).cell (i := 3) rfl, (hC.keep h (fun h => h)).cell (i := 0) rfl, (hC.keep h (fun h => h)).cell (i := 1) rfl, (hC.keep h (fun h => h)).cell (i := 2) rfl, (hC.keep h (fun h => h)).cell (i := 3) rfl, cell_later (h.below (Nat.le_refl _) (fun _ h => h.elim)) hcell⟩
              have HMK := Lib.hid Hmk
              clear Hmk
              have hst0 : Step (fun _ => False) wr wr := Step.refl _ _
              go_upto_region 13 with (fail)
              go_region_held3 (fun W => Step (fun _ => False) wr W ∧ W.cell? ⟨kp, 0, none⟩ = some (.bool false) ∧ W.cell? ⟨kp, 1, none⟩ = some (.int .i64 cn) ∧ W.cell? ⟨kp, 2, none⟩ = some (.int .i64 0) ∧ W.cell? ⟨kp, 3, none⟩ = some (.int .i64 s) ∧ W.cell? ⟨kp + 1, 0, none⟩ = some (.int .i64 0) ∧ W.cell? ⟨kp + 1, 1, none⟩ = some (.int .i64 0) ∧ W.cell? ⟨kp + 1, 2, none⟩ = some (.int .i64 rise) ∧ W.cell? ⟨kp + 1, 3, none⟩ = some (.int .i64 fall) ∧ W.cell? (ad.add k) = some (.bool true))
                ((refine HMK.out _ ?_; first | exact Step.drew hst0 | exact Step.then_below (Step.drew hst0) hb5 | exact Step.then_below (Step.drew (Step.alloc hst0 _)) hb5 | exact Step.alloc (Step.then_below (Step.drew hst0) hb5) _ | exact Step.drew (Step.alloc hst0 _) | exact (((((Step.then_below (Step.drew (Step.alloc hst0 _)) hb5).setCell (fun h => absurd h (Nat.lt_irrefl _)) _).setCell (fun h => absurd h (Nat.lt_irrefl _)) _).setCell (fun h => absurd h (Nat.lt_irrefl _)) _).setCell (fun h => absurd h (Nat.lt_irrefl _)) _) | exact (((((Step.alloc (Step.then_below (Step.drew hst0) hb5) _).setCell (fun h => absurd h (Nat.not_lt.2 (Step.size (Step.then_below (Step.drew hst0) hb5)))) _).setCell (fun h => absurd h (Nat.not_lt.2 (Step.size (Step.then_below (Step.drew hst0) hb5)))) _).setCell (fun h => absurd h (Nat.not_lt.2 (Step.size (Step.then_below (Step.drew hst0) hb5)))) _).setCell (fun h => absurd h (Nat.not_lt.2 (Step.size (Step.then_below (Step.drew hst0) hb5)))) _)))
                (first | (go_at_call 16; refine (Hres.out _).mono ?_; rintro e w5 ⟨rfl, hb5⟩; try (have hx := (blk_new wr [.bool false, .int .i64 0, .int .i64 0, .int .i64 0] 28).drew.keep (Step.of_below (F := fun _ => False) hb5) (fun h => h); have x0 := hx.cell (i := 0) rfl; have x1 := hx.cell (i := 1) rfl; have x2 := hx.cell (i := 2) rfl; have x3 := hx.cell (i := 3) rfl; have f0 := hx.free 0; have f1 := hx.free 1; have f2 := hx.free 2; have f3 := hx.free 3)))
              all_goals
                first
                  | (refine world_hide (q := wr.heap.size) (wr := wr) (T := 28) (cs := [.bool false, .int .i64 (cn + 1), .int .i64 (0), .int .i64 (s)]) ((((hx.set 0 _).set 1 _).set 2 _).set 3 _) ((((((Step.then_below (Step.drew (Step.alloc hst0 _)) hb5).setCell (fun h => absurd h (Nat.lt_irrefl _)) _).setCell (fun h => absurd h (Nat.lt_irrefl _)) _).setCell (fun h => absurd h (Nat.lt_irrefl _)) _).setCell (fun h => absurd h (Nat.lt_irrefl _)) _)) ?_; clear hx x0 x1 x2 x3 f0 f1 f2 f3)
                  | (refine world_hide (q := w5.heap.size) (wr := wr) (T := 28) (cs := [.bool false, .int .i64 (cn + 1), .int .i64 (0), .int .i64 (s)]) (blk_new w5 [.bool false, .int .i64 (cn + 1), .int .i64 (0), .int .i64 (s)] _) (Step.alloc (Step.then_below (Step.drew hst0) hb5) _) ?_)
                  | (refine world_hide (q := w5.heap.size) (wr := wr) (T := 28) (cs := [.bool false, .int .i64 (cn + 1), .int .i64 (0), .int .i64 (s)]) (((((blk_new w5 [.bool false, .int .i64 0, .int .i64 0, .int .i64 0] _).set 0 _).set 1 _).set 2 _).set 3 _) ((((((Step.alloc (Step.then_below (Step.drew hst0) hb5) _).setCell (fun h => absurd h (Nat.not_lt.2 (Step.size (Step.then_below (Step.drew hst0) hb5)))) _).setCell (fun h => absurd h (Nat.not_lt.2 (Step.size (Step.then_below (Step.drew hst0) hb5)))) _).setCell (fun h => absurd h (Nat.not_lt.2 (Step.size (Step.then_below (Step.drew hst0) hb5)))) _).setCell (fun h => absurd h (Nat.not_lt.2 (Step.size (Step.then_below (Step.drew hst0) hb5)))) _)) ?_)
              all_goals
                intro w6 hQ hS6
                have hP6 := hP.keep hS6 (fun h => h)
                have hC6 := hC.keep hS6 (fun h => h)
                have hc6 := cell_later (hS6.below (Nat.le_refl _) (fun _ h => h.elim)) hcell
                have hS7 := hS.same hS6
                have q0 := hQ.cell (i := 0) rfl
                have q1 := hQ.cell (i := 1) rfl
                have q2 := hQ.cell (i := 2) rfl
                have q3 := hQ.cell (i := 3) rfl
                clear hb5 HMK Hres hst0 hP hC hcell hQ hS hS6
                have p0 := hP6.cell (i := 0) rfl
                have p1 := hP6.cell (i := 1) rfl
                have p2 := hP6.cell (i := 2) rfl
                have p3 := hP6.cell (i := 3) rfl
                have f0 := hP6.free 0
                have f1 := hP6.free 1
                have f2 := hP6.free 2
                have f3 := hP6.free 3
                have hgek : w.heap.size ≤ kp := by rw [Hkb.out]; exact hge
                go_wp2
                go_roundw
                case rel =>
                  refine ⟨k + 1, false, cn + 1, s, by omega, by omega, by go_num, rfl, rfl, by omega, by unfold want; first | (simp; omega) | omega, (((hP6.set 0 _).set 1 _).set 2 _).set 3 _, hC6.keep (((((Step.refl (· = kp) _).setCell (fun _ => rfl) _).setCell (fun _ => rfl) _).setCell (fun _ => rfl) _).setCell (fun _ => rfl) _) (by omega), ((((hS7.setCell (fun h => absurd h (Nat.not_lt.2 hgek)) _).setCell (fun h => absurd h (Nat.not_lt.2 hgek)) _).setCell (fun h => absurd h (Nat.not_lt.2 hgek)) _).setCell (fun h => absurd h (Nat.not_lt.2 hgek)) _)⟩
                case measure => simp [intOf]; omega
        · have hcr : cn < fall := hcn2
          cases g
          · by_cases he : cn + 1 = fall
            · have hw : True := trivial
              have e1 : nxU true false cn rise fall = false := by simp [nxU, want, he]
              have e2 : nxC true false cn rise fall = 0 := by simp [nxC, want, he]
              have e3 : nxI true false cn rise fall = true := by simp [nxI, want, he]
              have e4 : nxS true false cn rise fall s (k : Int) = (k : Int) := by simp [nxS, e3]
              have Hr0 : ∀ W, Calls Try.prog 16 #[.agg #[.bool true, .int .i64 (0), .int .i64 (cn), .int .i64 s], .agg #[.int .i64 0, .int .i64 0, .int .i64 rise, .int .i64 fall], .bool false, .int .i64 (k : Int)] W fun e w' => e = .returned (.tuple #[.agg #[.bool false, .int .i64 (0), .int .i64 (0), .int .i64 ((k : Int))], .bool true]) ∧ Below W.heap.size W w' := fun W => by
                have := result_calls true false cn s rise fall (k : Int) hq1 hq2 hq3 hq4 hcn hcn2 W
                rw [e1, e2, e3, e4] at this
                exact this
              have Hres := Lib.hid Hr0
              clear Hr0 e1 e2 e3 e4
              have Hmk : ∀ W, Step (fun _ => False) wr W → Step (fun _ => False) wr W ∧ W.cell? ⟨kp, 0, none⟩ = some (.bool true) ∧ W.cell? ⟨kp, 1, none⟩ = some (.int .i64 0) ∧ W.cell? ⟨kp, 2, none⟩ = some (.int .i64 cn) ∧ W.cell? ⟨kp, 3, none⟩ = some (.int .i64 s) ∧ W.cell? ⟨kp + 1, 0, none⟩ = some (.int .i64 0) ∧ W.cell? ⟨kp + 1, 1, none⟩ = some (.int .i64 0) ∧ W.cell? ⟨kp + 1, 2, none⟩ = some (.int .i64 rise) ∧ W.cell? ⟨kp + 1, 3, none⟩ = some (.int .i64 fall) ∧ W.cell? (ad.add k) = some (.bool false) := fun W h => ⟨h, (hP.keep h (fun h => h)).cell (i := 0) rfl, (hP.keep h (fun h => h)).cell (i := 1) rfl, (hP.keep h (fun h => h)).cell (i := 2) rfl, (hP.keep h (fun h => h)).cell (i := 3) rfl, (hC.keep h (fun h => h)).cell (i := 0) rfl, (hC.keep h (fun h => h)).cell (i := 1) rfl, (hC.keep h (fun h => h)).cell (i := 2) rfl, (hC.keep h (fun h => h)).cell (i := 3) rfl, cell_later (h.below (Nat.le_refl _) (fun _ h => h.elim)) hcell⟩
              have HMK := Lib.hid Hmk
              clear Hmk
              have hst0 : Step (fun _ => False) wr wr := Step.refl _ _
              go_upto_region 13 with (fail)
              go_region_held3 (fun W => Step (fun _ => False) wr W ∧ W.cell? ⟨kp, 0, none⟩ = some (.bool true) ∧ W.cell? ⟨kp, 1, none⟩ = some (.int .i64 0) ∧ W.cell? ⟨kp, 2, none⟩ = some (.int .i64 cn) ∧ W.cell? ⟨kp, 3, none⟩ = some (.int .i64 s) ∧ W.cell? ⟨kp + 1, 0, none⟩ = some (.int .i64 0) ∧ W.cell? ⟨kp + 1, 1, none⟩ = some (.int .i64 0) ∧ W.cell? ⟨kp + 1, 2, none⟩ = some (.int .i64 rise) ∧ W.cell? ⟨kp + 1, 3, none⟩ = some (.int .i64 fall) ∧ W.cell? (ad.add k) = some (.bool false))
                ((refine HMK.out _ ?_; first | exact Step.drew hst0 | exact Step.then_below (Step.drew hst0) hb5 | exact Step.then_below (Step.drew (Step.alloc hst0 _)) hb5 | exact Step.alloc (Step.then_below (Step.drew hst0) hb5) _ | exact Step.drew (Step.alloc hst0 _) | exact (((((Step.then_below (Step.drew (Step.alloc hst0 _)) hb5).setCell (fun h => absurd h (Nat.lt_irrefl _)) _).setCell (fun h => absurd h (Nat.lt_irrefl _)) _).setCell (fun h => absurd h (Nat.lt_irrefl _)) _).setCell (fun h => absurd h (Nat.lt_irrefl _)) _) | exact (((((Step.alloc (Step.then_below (Step.drew hst0) hb5) _).setCell (fun h => absurd h (Nat.not_lt.2 (Step.size (Step.then_below (Step.drew hst0) hb5)))) _).setCell (fun h => absurd h (Nat.not_lt.2 (Step.size (Step.then_below (Step.drew hst0) hb5)))) _).setCell (fun h => absurd h (Nat.not_lt.2 (Step.size (Step.then_below (Step.drew hst0) hb5)))) _).setCell (fun h => absurd h (Nat.not_lt.2 (Step.size (Step.then_below (Step.drew hst0) hb5)))) _)))
                (first | (go_at_call 16; refine (Hres.out _).mono ?_; rintro e w5 ⟨rfl, hb5⟩; try (have hx := (blk_new wr [.bool false, .int .i64 0, .int .i64 0, .int .i64 0] 28).drew.keep (Step.of_below (F := fun _ => False) hb5) (fun h => h); have x0 := hx.cell (i := 0) rfl; have x1 := hx.cell (i := 1) rfl; have x2 := hx.cell (i := 2) rfl; have x3 := hx.cell (i := 3) rfl; have f0 := hx.free 0; have f1 := hx.free 1; have f2 := hx.free 2; have f3 := hx.free 3)))
              all_goals
                first
                  | (refine world_hide (q := wr.heap.size) (wr := wr) (T := 28) (cs := [.bool false, .int .i64 (0), .int .i64 (0), .int .i64 ((k : Int))]) ((((hx.set 0 _).set 1 _).set 2 _).set 3 _) ((((((Step.then_below (Step.drew (Step.alloc hst0 _)) hb5).setCell (fun h => absurd h (Nat.lt_irrefl _)) _).setCell (fun h => absurd h (Nat.lt_irrefl _)) _).setCell (fun h => absurd h (Nat.lt_irrefl _)) _).setCell (fun h => absurd h (Nat.lt_irrefl _)) _)) ?_; clear hx x0 x1 x2 x3 f0 f1 f2 f3)
                  | (refine world_hide (q := w5.heap.size) (wr := wr) (T := 28) (cs := [.bool false, .int .i64 (0), .int .i64 (0), .int .i64 ((k : Int))]) (blk_new w5 [.bool false, .int .i64 (0), .int .i64 (0), .int .i64 ((k : Int))] _) (Step.alloc (Step.then_below (Step.drew hst0) hb5) _) ?_)
                  | (refine world_hide (q := w5.heap.size) (wr := wr) (T := 28) (cs := [.bool false, .int .i64 (0), .int .i64 (0), .int .i64 ((k : Int))]) (((((blk_new w5 [.bool false, .int .i64 0, .int .i64 0, .int .i64 0] _).set 0 _).set 1 _).set 2 _).set 3 _) ((((((Step.alloc (Step.then_below (Step.drew hst0) hb5) _).setCell (fun h => absurd h (Nat.not_lt.2 (Step.size (Step.then_below (Step.drew hst0) hb5)))) _).setCell (fun h => absurd h (Nat.not_lt.2 (Step.size (Step.then_below (Step.drew hst0) hb5)))) _).setCell (fun h => absurd h (Nat.not_lt.2 (Step.size (Step.then_below (Step.drew hst0) hb5)))) _).setCell (fun h => absurd h (Nat.not_lt.2 (Step.size (Step.then_below (Step.drew hst0) hb5)))) _)) ?_)
              all_goals
                intro w6 hQ hS6
                have hP6 := hP.keep hS6 (fun h => h)
                have hC6 := hC.keep hS6 (fun h => h)
                have hc6 := cell_later (hS6.below (Nat.le_refl _) (fun _ h => h.elim)) hcell
                have hS7 := hS.same hS6
                have q0 := hQ.cell (i := 0) rfl
                have q1 := hQ.cell (i := 1) rfl
                have q2 := hQ.cell (i := 2) rfl
                have q3 := hQ.cell (i := 3) rfl
                clear hb5 HMK Hres hst0 hP hC hcell hQ hS hS6
                have p0 := hP6.cell (i := 0) rfl
                have p1 := hP6.cell (i := 1) rfl
                have p2 := hP6.cell (i := 2) rfl
                have p3 := hP6.cell (i := 3) rfl
                have f0 := hP6.free 0
                have f1 := hP6.free 1
                have f2 := hP6.free 2
                have f3 := hP6.free 3
                have hgek : w.heap.size ≤ kp := by rw [Hkb.out]; exact hge
                go_wp2
                go_roundw
                case rel =>
                  refine ⟨k + 1, false, 0, (k : Int), by omega, by omega, by go_num, rfl, rfl, by omega, by unfold want; first | (simp; omega) | omega, (((hP6.set 0 _).set 1 _).set 2 _).set 3 _, hC6.keep (((((Step.refl (· = kp) _).setCell (fun _ => rfl) _).setCell (fun _ => rfl) _).setCell (fun _ => rfl) _).setCell (fun _ => rfl) _) (by omega), ((((hS7.setCell (fun h => absurd h (Nat.not_lt.2 hgek)) _).setCell (fun h => absurd h (Nat.not_lt.2 hgek)) _).setCell (fun h => absurd h (Nat.not_lt.2 hgek)) _).setCell (fun h => absurd h (Nat.not_lt.2 hgek)) _)⟩
                case measure => simp [intOf]; omega
            · have hw : True := trivial
              have e1 : nxU true false cn rise fall = true := by simp [nxU, want, he]
              have e2 : nxC true false cn rise fall = cn + 1 := by simp [nxC, want, he]
              have e3 : nxI true false cn rise fall = false := by simp [nxI, want, he]
              have e4 : nxS true false cn rise fall s (k : Int) = s := by simp [nxS, e3]
              have Hr0 : ∀ W, Calls Try.prog 16 #[.agg #[.bool true, .int .i64 (0), .int .i64 (cn), .int .i64 s], .agg #[.int .i64 0, .int .i64 0, .int .i64 rise, .int .i64 fall], .bool false, .int .i64 (k : Int)] W fun e w' => e = .returned (.tuple #[.agg #[.bool true, .int .i64 (0), .int .i64 (cn + 1), .int .i64 (s)], .bool false]) ∧ Below W.heap.size W w' := fun W => by
                have := result_calls true false cn s rise fall (k : Int) hq1 hq2 hq3 hq4 hcn hcn2 W
                rw [e1, e2, e3, e4] at this
                exact this
              have Hres := Lib.hid Hr0
              clear Hr0 e1 e2 e3 e4
              have Hmk : ∀ W, Step (fun _ => False) wr W → Step (fun _ => False) wr W ∧ W.cell? ⟨kp, 0, none⟩ = some (.bool true) ∧ W.cell? ⟨kp, 1, none⟩ = some (.int .i64 0) ∧ W.cell? ⟨kp, 2, none⟩ = some (.int .i64 cn) ∧ W.cell? ⟨kp, 3, none⟩ = some (.int .i64 s) ∧ W.cell? ⟨kp + 1, 0, none⟩ = some (.int .i64 0) ∧ W.cell? ⟨kp + 1, 1, none⟩ = some (.int .i64 0) ∧ W.cell? ⟨kp + 1, 2, none⟩ = some (.int .i64 rise) ∧ W.cell? ⟨kp + 1, 3, none⟩ = some (.int .i64 fall) ∧ W.cell? (ad.add k) = some (.bool false) := fun W h => ⟨h, (hP.keep h (fun h => h)).cell (i := 0) rfl, (hP.keep h (fun h => h)).cell (i := 1) rfl, (hP.keep h (fun h => h)).cell (i := 2) rfl, (hP.keep h (fun h => h)).cell (i := 3) rfl, (hC.keep h (fun h => h)).cell (i := 0) rfl, (hC.keep h (fun h => h)).cell (i := 1) rfl, (hC.keep h (fun h => h)).cell (i := 2) rfl, (hC.keep h (fun h => h)).cell (i := 3) rfl, cell_later (h.below (Nat.le_refl _) (fun _ h => h.elim)) hcell⟩
              have HMK := Lib.hid Hmk
              clear Hmk
              have hst0 : Step (fun _ => False) wr wr := Step.refl _ _
              go_upto_region 13 with (fail)
              go_region_held3 (fun W => Step (fun _ => False) wr W ∧ W.cell? ⟨kp, 0, none⟩ = some (.bool true) ∧ W.cell? ⟨kp, 1, none⟩ = some (.int .i64 0) ∧ W.cell? ⟨kp, 2, none⟩ = some (.int .i64 cn) ∧ W.cell? ⟨kp, 3, none⟩ = some (.int .i64 s) ∧ W.cell? ⟨kp + 1, 0, none⟩ = some (.int .i64 0) ∧ W.cell? ⟨kp + 1, 1, none⟩ = some (.int .i64 0) ∧ W.cell? ⟨kp + 1, 2, none⟩ = some (.int .i64 rise) ∧ W.cell? ⟨kp + 1, 3, none⟩ = some (.int .i64 fall) ∧ W.cell? (ad.add k) = some (.bool false))
                ((refine HMK.out _ ?_; first | exact Step.drew hst0 | exact Step.then_below (Step.drew hst0) hb5 | exact Step.then_below (Step.drew (Step.alloc hst0 _)) hb5 | exact Step.alloc (Step.then_below (Step.drew hst0) hb5) _ | exact Step.drew (Step.alloc hst0 _) | exact (((((Step.then_below (Step.drew (Step.alloc hst0 _)) hb5).setCell (fun h => absurd h (Nat.lt_irrefl _)) _).setCell (fun h => absurd h (Nat.lt_irrefl _)) _).setCell (fun h => absurd h (Nat.lt_irrefl _)) _).setCell (fun h => absurd h (Nat.lt_irrefl _)) _) | exact (((((Step.alloc (Step.then_below (Step.drew hst0) hb5) _).setCell (fun h => absurd h (Nat.not_lt.2 (Step.size (Step.then_below (Step.drew hst0) hb5)))) _).setCell (fun h => absurd h (Nat.not_lt.2 (Step.size (Step.then_below (Step.drew hst0) hb5)))) _).setCell (fun h => absurd h (Nat.not_lt.2 (Step.size (Step.then_below (Step.drew hst0) hb5)))) _).setCell (fun h => absurd h (Nat.not_lt.2 (Step.size (Step.then_below (Step.drew hst0) hb5)))) _)))
                (first | (go_at_call 16; refine (Hres.out _).mono ?_; rintro e w5 ⟨rfl, hb5⟩; try (have hx := (blk_new wr [.bool false, .int .i64 0, .int .i64 0, .int .i64 0] 28).drew.keep (Step.of_below (F := fun _ => False) hb5) (fun h => h); have x0 := hx.cell (i := 0) rfl; have x1 := hx.cell (i := 1) rfl; have x2 := hx.cell (i := 2) rfl; have x3 := hx.cell (i := 3) rfl; have f0 := hx.free 0; have f1 := hx.free 1; have f2 := hx.free 2; have f3 := hx.free 3)))
              all_goals
                first
                  | (refine world_hide (q := wr.heap.size) (wr := wr) (T := 28) (cs := [.bool true, .int .i64 (0), .int .i64 (cn + 1), .int .i64 (s)]) ((((hx.set 0 _).set 1 _).set 2 _).set 3 _) ((((((Step.then_below (Step.drew (Step.alloc hst0 _)) hb5).setCell (fun h => absurd h (Nat.lt_irrefl _)) _).setCell (fun h => absurd h (Nat.lt_irrefl _)) _).setCell (fun h => absurd h (Nat.lt_irrefl _)) _).setCell (fun h => absurd h (Nat.lt_irrefl _)) _)) ?_; clear hx x0 x1 x2 x3 f0 f1 f2 f3)
                  | (refine world_hide (q := w5.heap.size) (wr := wr) (T := 28) (cs := [.bool true, .int .i64 (0), .int .i64 (cn + 1), .int .i64 (s)]) (blk_new w5 [.bool true, .int .i64 (0), .int .i64 (cn + 1), .int .i64 (s)] _) (Step.alloc (Step.then_below (Step.drew hst0) hb5) _) ?_)
                  | (refine world_hide (q := w5.heap.size) (wr := wr) (T := 28) (cs := [.bool true, .int .i64 (0), .int .i64 (cn + 1), .int .i64 (s)]) (((((blk_new w5 [.bool false, .int .i64 0, .int .i64 0, .int .i64 0] _).set 0 _).set 1 _).set 2 _).set 3 _) ((((((Step.alloc (Step.then_below (Step.drew hst0) hb5) _).setCell (fun h => absurd h (Nat.not_lt.2 (Step.size (Step.then_below (Step.drew hst0) hb5)))) _).setCell (fun h => absurd h (Nat.not_lt.2 (Step.size (Step.then_below (Step.drew hst0) hb5)))) _).setCell (fun h => absurd h (Nat.not_lt.2 (Step.size (Step.then_below (Step.drew hst0) hb5)))) _).setCell (fun h => absurd h (Nat.not_lt.2 (Step.size (Step.then_below (Step.drew hst0) hb5)))) _)) ?_)
              all_goals
                intro w6 hQ hS6
                have hP6 := hP.keep hS6 (fun h => h)
                have hC6 := hC.keep hS6 (fun h => h)
                have hc6 := cell_later (hS6.below (Nat.le_refl _) (fun _ h => h.elim)) hcell
                have hS7 := hS.same hS6
                have q0 := hQ.cell (i := 0) rfl
                have q1 := hQ.cell (i := 1) rfl
                have q2 := hQ.cell (i := 2) rfl
                have q3 := hQ.cell (i := 3) rfl
                clear hb5 HMK Hres hst0 hP hC hcell hQ hS hS6
                have p0 := hP6.cell (i := 0) rfl
                have p1 := hP6.cell (i := 1) rfl
                have p2 := hP6.cell (i := 2) rfl
                have p3 := hP6.cell (i := 3) rfl
                have f0 := hP6.free 0
                have f1 := hP6.free 1
                have f2 := hP6.free 2
                have f3 := hP6.free 3
                have hgek : w.heap.size ≤ kp := by rw [Hkb.out]; exact hge
                go_wp2
                go_roundw
                case rel =>
                  refine ⟨k + 1, true, cn + 1, s, by omega, by omega, by go_num, rfl, rfl, by omega, by unfold want; first | (simp; omega) | omega, (((hP6.set 0 _).set 1 _).set 2 _).set 3 _, hC6.keep (((((Step.refl (· = kp) _).setCell (fun _ => rfl) _).setCell (fun _ => rfl) _).setCell (fun _ => rfl) _).setCell (fun _ => rfl) _) (by omega), ((((hS7.setCell (fun h => absurd h (Nat.not_lt.2 hgek)) _).setCell (fun h => absurd h (Nat.not_lt.2 hgek)) _).setCell (fun h => absurd h (Nat.not_lt.2 hgek)) _).setCell (fun h => absurd h (Nat.not_lt.2 hgek)) _)⟩
                case measure => simp [intOf]; omega
          · have hw : True := trivial
            have e1 : nxU true true cn rise fall = true := by simp [nxU, want]
            have e2 : nxC true true cn rise fall = 0 := by simp [nxC, want]
            have e3 : nxI true true cn rise fall = false := by simp [nxI, want]
            have e4 : nxS true true cn rise fall s (k : Int) = s := by simp [nxS, e3]
            have Hr0 : ∀ W, Calls Try.prog 16 #[.agg #[.bool true, .int .i64 (0), .int .i64 (cn), .int .i64 s], .agg #[.int .i64 0, .int .i64 0, .int .i64 rise, .int .i64 fall], .bool true, .int .i64 (k : Int)] W fun e w' => e = .returned (.tuple #[.agg #[.bool true, .int .i64 (0), .int .i64 (0), .int .i64 (s)], .bool false]) ∧ Below W.heap.size W w' := fun W => by
              have := result_calls true true cn s rise fall (k : Int) hq1 hq2 hq3 hq4 hcn hcn2 W
              rw [e1, e2, e3, e4] at this
              exact this
            have Hres := Lib.hid Hr0
            clear Hr0 e1 e2 e3 e4
            have Hmk : ∀ W, Step (fun _ => False) wr W → Step (fun _ => False) wr W ∧ W.cell? ⟨kp, 0, none⟩ = some (.bool true) ∧ W.cell? ⟨kp, 1, none⟩ = some (.int .i64 0) ∧ W.cell? ⟨kp, 2, none⟩ = some (.int .i64 cn) ∧ W.cell? ⟨kp, 3, none⟩ = some (.int .i64 s) ∧ W.cell? ⟨kp + 1, 0, none⟩ = some (.int .i64 0) ∧ W.cell? ⟨kp + 1, 1, none⟩ = some (.int .i64 0) ∧ W.cell? ⟨kp + 1, 2, none⟩ = some (.int .i64 rise) ∧ W.cell? ⟨kp + 1, 3, none⟩ = some (.int .i64 fall) ∧ W.cell? (ad.add k) = some (.bool true) := fun W h => ⟨h, (hP.keep h (fun h => h)).cell (i := 0) rfl, (hP.keep h (fun h => h)).cell (i := 1) rfl, (hP.keep h (fun h => h)).cell (i := 2) rfl, (hP.keep h (fun h => h)).cell (i := 3) rfl, (hC.keep h (fun h => h)).cell (i := 0) rfl, (hC.keep h (fun h => h)).cell (i := 1) rfl, (hC.keep h (fun h => h)).cell (i := 2) rfl, (hC.keep h (fun h => h)).cell (i := 3) rfl, cell_later (h.below (Nat.le_refl _) (fun _ h => h.elim)) hcell⟩
            have HMK := Lib.hid Hmk
            clear Hmk
            have hst0 : Step (fun _ => False) wr wr := Step.refl _ _
            go_upto_region 13 with (fail)
            go_region_held3 (fun W => Step (fun _ => False) wr W ∧ W.cell? ⟨kp, 0, none⟩ = some (.bool true) ∧ W.cell? ⟨kp, 1, none⟩ = some (.int .i64 0) ∧ W.cell? ⟨kp, 2, none⟩ = some (.int .i64 cn) ∧ W.cell? ⟨kp, 3, none⟩ = some (.int .i64 s) ∧ W.cell? ⟨kp + 1, 0, none⟩ = some (.int .i64 0) ∧ W.cell? ⟨kp + 1, 1, none⟩ = some (.int .i64 0) ∧ W.cell? ⟨kp + 1, 2, none⟩ = some (.int .i64 rise) ∧ W.cell? ⟨kp + 1, 3, none⟩ = some (.int .i64 fall) ∧ W.cell? (ad.add k) = some (.bool true))
              ((refine HMK.out _ ?_; first | exact Step.drew hst0 | exact Step.then_below (Step.drew hst0) hb5 | exact Step.then_below (Step.drew (Step.alloc hst0 _)) hb5 | exact Step.alloc (Step.then_below (Step.drew hst0) hb5) _ | exact Step.drew (Step.alloc hst0 _) | exact (((((Step.then_below (Step.drew (Step.alloc hst0 _)) hb5).setCell (fun h => absurd h (Nat.lt_irrefl _)) _).setCell (fun h => absurd h (Nat.lt_irrefl _)) _).setCell (fun h => absurd h (Nat.lt_irrefl _)) _).setCell (fun h => absurd h (Nat.lt_irrefl _)) _) | exact (((((Step.alloc (Step.then_below (Step.drew hst0) hb5) _).setCell (fun h => absurd h (Nat.not_lt.2 (Step.size (Step.then_below (Step.drew hst0) hb5)))) _).setCell (fun h => absurd h (Nat.not_lt.2 (Step.size (Step.then_below (Step.drew hst0) hb5)))) _).setCell (fun h => absurd h (Nat.not_lt.2 (Step.size (Step.then_below (Step.drew hst0) hb5)))) _).setCell (fun h => absurd h (Nat.not_lt.2 (Step.size (Step.then_below (Step.drew hst0) hb5)))) _)))
              (first | (go_at_call 16; refine (Hres.out _).mono ?_; rintro e w5 ⟨rfl, hb5⟩; try (have hx := (blk_new wr [.bool false, .int .i64 0, .int .i64 0, .int .i64 0] 28).drew.keep (Step.of_below (F := fun _ => False) hb5) (fun h => h); have x0 := hx.cell (i := 0) rfl; have x1 := hx.cell (i := 1) rfl; have x2 := hx.cell (i := 2) rfl; have x3 := hx.cell (i := 3) rfl; have f0 := hx.free 0; have f1 := hx.free 1; have f2 := hx.free 2; have f3 := hx.free 3)))
            all_goals
              first
                | (refine world_hide (q := wr.heap.size) (wr := wr) (T := 28) (cs := [.bool true, .int .i64 (0), .int .i64 (0), .int .i64 (s)]) ((((hx.set 0 _).set 1 _).set 2 _).set 3 _) ((((((Step.then_below (Step.drew (Step.alloc hst0 _)) hb5).setCell (fun h => absurd h (Nat.lt_irrefl _)) _).setCell (fun h => absurd h (Nat.lt_irrefl _)) _).setCell (fun h => absurd h (Nat.lt_irrefl _)) _).setCell (fun h => absurd h (Nat.lt_irrefl _)) _)) ?_; clear hx x0 x1 x2 x3 f0 f1 f2 f3)
                | (refine world_hide (q := w5.heap.size) (wr := wr) (T := 28) (cs := [.bool true, .int .i64 (0), .int .i64 (0), .int .i64 (s)]) (blk_new w5 [.bool true, .int .i64 (0), .int .i64 (0), .int .i64 (s)] _) (Step.alloc (Step.then_below (Step.drew hst0) hb5) _) ?_)
                | (refine world_hide (q := w5.heap.size) (wr := wr) (T := 28) (cs := [.bool true, .int .i64 (0), .int .i64 (0), .int .i64 (s)]) (((((blk_new w5 [.bool false, .int .i64 0, .int .i64 0, .int .i64 0] _).set 0 _).set 1 _).set 2 _).set 3 _) ((((((Step.alloc (Step.then_below (Step.drew hst0) hb5) _).setCell (fun h => absurd h (Nat.not_lt.2 (Step.size (Step.then_below (Step.drew hst0) hb5)))) _).setCell (fun h => absurd h (Nat.not_lt.2 (Step.size (Step.then_below (Step.drew hst0) hb5)))) _).setCell (fun h => absurd h (Nat.not_lt.2 (Step.size (Step.then_below (Step.drew hst0) hb5)))) _).setCell (fun h => absurd h (Nat.not_lt.2 (Step.size (Step.then_below (Step.drew hst0) hb5)))) _)) ?_)
            all_goals
              intro w6 hQ hS6
              have hP6 := hP.keep hS6 (fun h => h)
              have hC6 := hC.keep hS6 (fun h => h)
              have hc6 := cell_later (hS6.below (Nat.le_refl _) (fun _ h => h.elim)) hcell
              have hS7 := hS.same hS6
              have q0 := hQ.cell (i := 0) rfl
              have q1 := hQ.cell (i := 1) rfl
              have q2 := hQ.cell (i := 2) rfl
              have q3 := hQ.cell (i := 3) rfl
              clear hb5 HMK Hres hst0 hP hC hcell hQ hS hS6
              have p0 := hP6.cell (i := 0) rfl
              have p1 := hP6.cell (i := 1) rfl
              have p2 := hP6.cell (i := 2) rfl
              have p3 := hP6.cell (i := 3) rfl
              have f0 := hP6.free 0
              have f1 := hP6.free 1
              have f2 := hP6.free 2
              have f3 := hP6.free 3
              have hgek : w.heap.size ≤ kp := by rw [Hkb.out]; exact hge
              go_wp2
              go_roundw
              case rel =>
                refine ⟨k + 1, true, 0, s, by omega, by omega, by go_num, rfl, rfl, by omega, by unfold want; first | (simp; omega) | omega, (((hP6.set 0 _).set 1 _).set 2 _).set 3 _, hC6.keep (((((Step.refl (· = kp) _).setCell (fun _ => rfl) _).setCell (fun _ => rfl) _).setCell (fun _ => rfl) _).setCell (fun _ => rfl) _) (by omega), ((((hS7.setCell (fun h => absurd h (Nat.not_lt.2 hgek)) _).setCell (fun h => absurd h (Nat.not_lt.2 hgek)) _).setCell (fun h => absurd h (Nat.not_lt.2 hgek)) _).setCell (fun h => absurd h (Nat.not_lt.2 hgek)) _)⟩
              case measure => simp [intOf]; omega
      · go_wp2
        go_ret
        exact ⟨rfl, hS.below (by rw [Hkb.out]; exact Nat.le_refl _) (fun _ h => h.elim)⟩
    · go_wp2
      go_ret
      exact ⟨rfl, hS.below (by rw [Hkb.out]; exact Nat.le_refl _) (fun _ h => h.elim)⟩
end Go.Proofs.Ytlmppdpjjkdoaaa.Probe
