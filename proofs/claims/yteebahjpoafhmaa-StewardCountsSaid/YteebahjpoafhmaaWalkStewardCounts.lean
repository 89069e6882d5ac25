/- The walk of stewardtop.StewardCounts. Own work of this seat. -/
import Derived.Test.YteebahjpoafhmaaAct
namespace Go.Proofs.Yteebahjpoafhmaa.Pool
open Go.RowKit Go.Proofs.Yteebahjpoafhmaa.Kit Go.Proofs.Yteebahjpoafhmaa.PPoolPlays Go.Proofs.YteebahjpoafhmaaW.PrintWords Go.Proofs.YteebahjpoafhmaaW.PrintLast Go.Proofs.YteebahjpoafhmaaW.PrintMore
set_option linter.unusedVariables false
set_option linter.unusedSimpArgs false

/-- A row of strings. -/
def SRow (w : World) (B : Option Addr) (m cB : Nat) (os : List ByteArray) : Prop := FSeg w 9 1 B m cB (os.map Value.string)

/-- Between the calls of StewardCounts: the pool behind p, the open requests in the row B; all of it new since w0. -/
structure SJ (w0 w : World) (p : Nat) (A : Option Addr) (c : Nat) (l : List S38) (B : Option Addr) (m cB : Nat) (os : List ByteArray) : Prop where
  pa : PAt w p A c l
  good : Good l
  row : SRow w B m cB os
  sep : ∀ k, blockOf B = some k → k ≠ p ∧ blockOf A ≠ some k
  lowp : w0.heap.size ≤ p
  lowA : ∀ k, blockOf A = some k → w0.heap.size ≤ k
  lowB : ∀ k, blockOf B = some k → w0.heap.size ≤ k
  bel : Below w0.heap.size w0 w
section
variable {w0 w w' : World} {p : Nat} {A A' : Option Addr} {c c' : Nat} {l l' : List S38} {B B' : Option Addr} {m m' cB cB' : Nat} {os os' : List ByteArray}
theorem SJ.big (h : SJ w0 w p A c l B m cB os) : w0.heap.size ≤ w.heap.size := h.bel.size
theorem SJ.still (h : SJ w0 w p A c l B m cB os) (hs : Step (fun _ => False) w w') : SJ w0 w' p A c l B m cB os :=
  ⟨h.pa.still hs, h.good, FSeg.keep h.row hs (fun _ _ h => h), h.sep, h.lowp, h.lowA, h.lowB, h.bel.trans (hs.below h.big (fun _ h => h.elim))⟩
theorem SJ.pool (h : SJ w0 w p A c l B m cB os) (hP : PAt w' p A' c' l') (hs : PStep p A w w') (hn : Near w A A') (hg : Good l') : SJ w0 w' p A' c' l' B m cB os :=
  ⟨hP, hg, FSeg.keep h.row hs (fun k hk hf => by
      rcases hf with e | e
      · exact (h.sep k hk).1 e
      · exact (h.sep k hk).2 e), fun k hk => ⟨(h.sep k hk).1, fun e => by
      rcases hn k e with e' | e'
      · exact (h.sep k hk).2 e'
      · have := FSeg.lt h.row hk; omega⟩, h.lowp, fun k hk => by
      rcases hn k hk with e' | e'
      · exact h.lowA k e'
      · exact Nat.le_trans h.big e', h.lowB, h.bel.trans (Step.below hs h.big (fun k hk => by
      rcases hk with e | e
      · rw [e]; exact h.lowp
      · exact h.lowA k e))⟩
theorem SJ.open (h : SJ w0 w p A c l B m cB os) (hr : SRow w' B' m' cB' os') (hs : Step (fun k => blockOf B = some k) w w') (hn : blockOf B' = blockOf B ∨ ∃ k, blockOf B' = some k ∧ w.heap.size ≤ k) : SJ w0 w' p A c l B' m' cB' os' := by
  have hB : ∀ k, blockOf B' = some k → blockOf B = some k ∨ w.heap.size ≤ k := fun k hk => by
    rcases hn with e | ⟨j, e, hj⟩
    · exact .inl (e ▸ hk)
    · obtain rfl : j = k := Option.some.inj (e.symm.trans hk)
      exact .inr hj
  refine ⟨h.pa.keep hs (fun hk => (h.sep p hk).1 rfl) (fun k hk hk' => (h.sep k hk').2 hk), h.good, hr, fun k hk => ?_, h.lowp, h.lowA, fun k hk => ?_, h.bel.trans (hs.below h.big (fun k hk => h.lowB k hk))⟩
  · rcases hB k hk with e | e
    · exact h.sep k e
    · exact ⟨by have := h.pa.lt; omega, fun e' => by have := h.pa.ltA e'; omega⟩
  · rcases hB k hk with e | e
    · exact h.lowB k e
    · exact Nat.le_trans h.big e
end

theorem pool_first {w : World} {p : Nat} (hp : PAt w p none 0 []) {w0 : World} (hl : w0.heap.size ≤ p) (hb : Below w0.heap.size w0 w) : SJ w0 w p none 0 [] none 0 0 [] :=
  ⟨hp, ⟨⟨by simp, fun x hx => (by cases hx), by simp⟩, fun x hx => (by cases hx)⟩, fseg_nil _ _ _, fun k hk => (by cases hk), hl, fun k hk => (by cases hk), fun k hk => (by cases hk), hb⟩

theorem tname_z : tname ⟨#[122]⟩ = true := by decide +kernel

set_option maxRecDepth 100000 in
set_option maxHeartbeats 1000000 in
theorem counts_calls (A0 : Option Addr) (c0 : Nat) (acts : List Act4) (w : World) (hr : Kd.C kAct w A0 acts.length acts) (hc : acts.length ≤ c0) :
    Calls Try.prog 3 #[.slice A0 acts.length c0] w fun e w' => e = .returned (.bool true) ∧ Below w.heap.size w w' := by
  obtain ⟨i0, hi0, hp⟩ : ∃ i, Try.prog.info? 9 = some i ∧ (i.zero, i.size, i.bytes) = (some (.string ⟨#[]⟩), 1, 16) := by
    exact Option.map_eq_some_iff.1 (by kernel_rfl : (Try.prog.info? 9).map (fun i => (i.zero, i.size, i.bytes)) = some (some (.string ⟨#[]⟩), 1, 16))
  simp only [Prod.mk.injEq] at hp
  obtain ⟨hz0, hs0, hy0⟩ := hp
  have hact0 : ∀ w1, Below w.heap.size w w1 → ∀ i, i < acts.length → _ := fun w1 hb i hi => act_at (Kd.C_below hr hb) i hi
  have hact := Lib.hid hact0
  clear hact0
  generalize acts.length = n at *
  have z0 : (addR [] ⟨#[122]⟩ 1 1) = ([⟨⟨#[122]⟩, 1, 1, 0, 0⟩], 0) := by
    unfold addR
    rw [tname_z]
    rfl
  go_enter Try.func3, Try.ntmps3
  go_upto_region 5 with (first | (go_at_call 7; refine new_calls.mono ?_; rintro e1 w1 ⟨p, rfl, hP1, hp1, hs1⟩; have hJ1 := pool_first hP1 hp1 (hs1.below (Nat.le_refl _) (fun _ h => h.elim)); have HA := add_calls hP1 hJ1.good.toGood0 ⟨#[122]⟩ 1 1; rw [z0] at HA) | (go_at_call 8; refine HA.mono ?_; rintro e2 w2 ⟨rfl, A2, c2, hP2, hs2, hn2⟩))
  have hJ2 : SJ w w2 p A2 c2 (addR [] ⟨#[122]⟩ 1 1).1 none 0 0 [] := hJ1.pool (by rw [z0]; exact hP2) hs2 hn2 (add_good hJ1.good _ _ _)
  have hO2 := oj_nil.add ⟨#[122]⟩ 1 1
  clear hP1 hs1 hJ1 HA hP2 hs2 hn2 z0
  generalize (addR [] ⟨#[122]⟩ 1 1).1 = l2 at *
  clear hr hp1
  go_wp2
  go_loopw [4, 5] (fun v4 v5 wr => ∃ (i : Nat) (A : Option Addr) (c : Nat) (l : List S38) (B : Option Addr) (m cB : Nat) (os : List ByteArray), v5 = .int .i64 (i : Int) ∧ v4 = .slice B m cB ∧ m ≤ i ∧ i ≤ 60 ∧ SJ w wr p A c l B m cB os ∧ OJ l os) (fun _ v _ => 60 - (intOf v).toNat)
  case atStart => exact ⟨0, A2, c2, l2, none, 0, 0, [], rfl, rfl, by omega, by omega, hJ2, hO2⟩
  case round =>
    clear hJ2 hO2
    obtain ⟨i, A, c, l, B, m, cB, os, rfl, rfl, hm, hi, hJ, hO⟩ := hrel
    by_cases hgo : i < n ∧ i < 60
    · obtain ⟨hin, hi60⟩ := hgo
      have hin' : ((i : Int) < (n : Int)) := by omega
      have hi60' : ((i : Int) < 60) := by omega
      obtain ⟨ad, ⟨k, wt, cp, nm⟩, rfl, a0, a1, a2, a3⟩ := hact.out wr hJ.bel i hin
      obtain ⟨s, HS0⟩ := cut_calls nm
      have HS := Lib.hid HS0
      clear HS0 hact
      go_upto_region 9 with (fail)
      refine alloc_next (cs := [.int .i64 k, .int .i64 wt, .int .i64 cp, .string nm]) ?_
      intro w3 hE hs3
      have hJ3 := hJ.still hs3
      clear a0 a1 a2 a3 hJ
      generalize wr.heap.size = eb at *
      have e3 := hE.cell (i := 3) rfl
      go_upto_region 10 with (go_at_call 9; refine (HS.out _).mono ?_; rintro e4 w4 ⟨rfl, hs4⟩)
      have hE4 := hE.keep hs4 (fun h => h)
      have hJ4 := hJ3.still hs4
      clear e3 hE hs3 hs4 HS hJ3
      have e0 := hE4.cell (i := 0) rfl
      have e1 := hE4.cell (i := 1) rfl
      have e2 := hE4.cell (i := 2) rfl
      have hg := hJ4.good.toGood0
      by_cases k0 : k = 0
      · subst k0
        have HA := add_calls hJ4.pa hg s wt cp
        have hgA := add_good hJ4.good s wt cp
        have hOA := hO.add s wt cp
        generalize addR l s wt cp = r at *
        go_wp2_with (go_at_call 8; refine HA.mono ?_; rintro e5 w5 ⟨rfl, A5, c5, hP5, hs5, hn5⟩)
        exact ⟨⟨i + 1, A5, c5, r.1, B, m, cB, os, by go_num, rfl, by omega, by omega, hJ4.pool hP5 hs5 hn5 hgA, hOA⟩, by simp [intOf]; omega⟩
      · have q0 : (k == 0) = false := by simp [k0]
        by_cases k2 : k = 2
        · subst k2
          have HA := drain_calls hJ4.pa hg s
          have hgA := chg_good hJ4.good s 1 (by decide)
          have hOA := hO.chg s 1
          generalize chgR l s (toS 1) = r at *
          go_wp2_with (go_at_call 10; refine HA.mono ?_; rintro e5 w5 ⟨rfl, hP5, hs5⟩)
          exact ⟨⟨i + 1, A, c, r.1, B, m, cB, os, by go_num, rfl, by omega, by omega, hJ4.pool hP5 hs5 (Near.refl _ _) hgA, hOA⟩, by simp [intOf]; omega⟩
        · have q2 : (k == 2) = false := by simp [k2]
          by_cases k3 : k = 3
          · subst k3
            have HA := undrain_calls hJ4.pa hg s
            have hgA := chg_good hJ4.good s 0 (by decide)
            have hOA := hO.chg s 0
            generalize chgR l s (toS 0) = r at *
            go_wp2_with (go_at_call 11; refine HA.mono ?_; rintro e5 w5 ⟨rfl, hP5, hs5⟩)
            exact ⟨⟨i + 1, A, c, r.1, B, m, cB, os, by go_num, rfl, by omega, by omega, hJ4.pool hP5 hs5 (Near.refl _ _) hgA, hOA⟩, by simp [intOf]; omega⟩
          · have q3 : (k == 3) = false := by simp [k3]
            by_cases k4 : k = 4
            · subst k4
              have HA := remove_calls hJ4.pa hg s
              have hgA := rem_good hJ4.good s
              have hOA := hO.rem s
              generalize remR l s = r at *
              go_wp2_with (go_at_call 12; refine HA.mono ?_; rintro e5 w5 ⟨rfl, hP5, hs5⟩)
              exact ⟨⟨i + 1, A, c, r.1, B, m, cB, os, by go_num, rfl, by omega, by omega, hJ4.pool hP5 hs5 (Near.refl _ _) hgA, hOA⟩, by simp [intOf]; omega⟩
            · have q4 : (k == 4) = false := by simp [k4]
              have HA := take_calls hJ4.pa hg s
              have hgA := take_good hJ4.good s
              have hOA := hO.take hJ4.good s
              generalize takeR l s = r at *
              obtain ⟨l', e⟩ := r
              by_cases he : e = 0
              · subst he
                have hOB := hOA.1 rfl
                go_upto_region 12 with (go_at_call 13; refine HA.mono ?_; rintro e5 w5 ⟨rfl, hP5, hs5⟩)
                have hJ5 := hJ4.pool hP5 hs5 (Near.refl _ _) hgA
                clear HA hP5 hs5 hgA hJ4 hE4 e0 e1 e2 q0 q2 q3 q4 k0 k2 k3 k4 hg hO
                have hst6 : Step (fun _ => False) w5 (w5.alloc (.cells #[.string s] 9)) := (Step.refl _ _).alloc _
                have hJ6 := hJ5.still hst6
                have hb6 : Blk (w5.alloc (.cells #[.string s] 9)) w5.heap.size 9 [.string s] := blk_new _ _ _
                go_wp2_with (at_builtin; refine wpList_append_flat _ rfl (.tmp 45) (.tmp 47) 27 rfl 9 i0 _ 1 16 Try.underlying27 hi0 hz0 rfl hs0 hy0 (by omega) rfl hJ6.row rfl (m := 1) (r := [.string s]) rfl (fun _ => by omega) (fun v hv => by rw [List.mem_singleton.1 hv]; rfl) (fun j v hj => by rw [addr_add', Nat.zero_add]; exact hb6.cell hj) (by omega) ?_; intro B7 c7 w7 hR7 hs7 hat7)
                exact ⟨⟨i + 1, A, c, l', B7, m + 1, c7, os ++ [s], by go_num, rfl, by omega, by omega, hJ6.open (by unfold SRow; rw [List.map_append]; exact hR7) hs7 hat7, hOB⟩, by simp [intOf]; omega⟩
              · have he' : (e == 0) = false := by simp [he]
                have hOB := hOA.2 he
                go_wp2_with (go_at_call 13; refine HA.mono ?_; rintro e5 w5 ⟨rfl, hP5, hs5⟩)
                exact ⟨⟨i + 1, A, c, l', B, m, cB, os, by go_num, rfl, by omega, by omega, hJ4.pool hP5 hs5 (Near.refl _ _) hgA, hOB⟩, by simp [intOf]; omega⟩
    · clear hact
      have hm60 : m ≤ 60 := by omega
      have hmos0 : m = os.length := by have := hJ.row.1; rw [List.length_map] at this; omega
      have HB := busy_calls hJ.pa hJ.good.len (fun x hx => by have := hJ.good.num x hx; omega)
      rw [hO.sum hJ.good, ← hmos0] at HB
      have hmos := Lib.hid hmos0
      clear hmos0
      have hends : ¬ i < n ∨ (i < n ∧ ¬ i < 60) := by omega
      have hgetB := Lib.hid (show ∀ (l : List S38), Good l → ∀ x ∈ l, getB l x.f0 = (x, true) from fun l hg x hx => by unfold getB; rw [find_of hg.nd hx])
      rcases hends with h1 | ⟨h1, h2⟩
      all_goals (try have q1 : ((i : Int) < (n : Int)) = False := eq_false (by omega))
      all_goals (try have q1 : ((i : Int) < (n : Int)) = True := eq_true (by omega))
      all_goals (try have q2 : ((i : Int) < 60) = False := eq_false (by omega))
      all_goals (go_upto_region 21 with (fail))
      all_goals (
        clear hi hgo
        go_upto_region 23 with (go_at_call 14; refine HB.mono ?_; rintro e5 w5 ⟨rfl, hs5⟩)
        have hJ5 := hJ.still hs5
        clear HB hs5 hJ
        have hO5 : OJ l (os.drop 0) := hO
        clear hO
        go_wp2
        go_loopw [80] (fun v80 wr => ∃ (j : Nat) (l : List S38), v80 = .int .i64 (j : Int) ∧ j ≤ m ∧ SJ w wr p A c l B m cB os ∧ OJ l (os.drop j)) (fun v _ => m - (intOf v).toNat)
        case atStart => exact ⟨0, l, rfl, by omega, hJ5, hO5⟩
        case round =>
          clear hJ5 hO5
          obtain ⟨j, l, rfl, hj, hJ, hO⟩ := hrel
          by_cases hjm : j < m
          · have hjm' : ((j : Int) < (m : Int)) := by omega
            obtain ⟨g, rfl⟩ := FSeg.isSome hJ.row (by omega)
            obtain ⟨s, hs⟩ : ∃ s, os[j]? = some s := ⟨_, List.getElem?_eq_getElem (by have := hmos.out; omega)⟩
            have d0 := FSeg.cell hJ.row (j := j) (v := .string s) (by rw [List.getElem?_map, hs]; rfl)
            have hdr : os.drop j = s :: os.drop (j + 1) := by
              have hlt : j < os.length := by have := hmos.out; omega
              rw [List.drop_eq_getElem_cons hlt]
              rw [List.getElem?_eq_getElem hlt] at hs
              rw [Option.some.inj hs]
            rw [hdr] at hO
            have hG := hO.give hJ.good
            have hgG := give_good hJ.good s
            have HG := give_calls hJ.pa hJ.good.toGood0 s
            generalize giveR l s = r at *
            obtain ⟨l', b, e⟩ := r
            obtain ⟨rfl, hO'⟩ : e = 0 ∧ OJ l' (os.drop (j + 1)) := hG
            clear hdr hs hO hmos hgetB
            go_wp2_with (go_at_call 15; refine HG.mono ?_; rintro e6 w6 ⟨rfl, hP6, hs6⟩)
            exact ⟨⟨j + 1, l', by go_num, by omega, hJ.pool hP6 hs6 (Near.refl _ _) hgG, hO'⟩, by simp [intOf]; omega⟩
          · obtain rfl : j = m := by omega
            have hO' : OJ l [] := by
              have : os.drop j = [] := List.drop_eq_nil_of_le (by have := hmos.out; omega)
              rwa [this] at hO
            have h40 : ∀ x ∈ l, x.f4 = 0 := fun x hx => by rw [hO'.cnt x hx]; rfl
            have hsum : bsum l = 0 := by rw [hO'.sum hJ.good]; rfl
            have hgetl := hgetB.out l hJ.good
            have HL := list_calls hJ.pa (Nat.le_trans hJ.good.len (by omega))
            have hnl := hJ.good.len
            have hkept := hJ.good.kept
            have hnum := hJ.good.num
            clear hgetB hO hmos
            go_wp2_with (go_at_call 16; refine HL.mono ?_; rintro e7 w7 ⟨A7, c7, rfl, hL7, hn7, hs7⟩)
            have hJ7 := hJ.still hs7
            have hsz7 := hJ.big
            clear hJ hs7 HL
            have hln := hL7.len
            obtain ⟨ln, hln0⟩ : ∃ ln, l.length = ln := ⟨_, rfl⟩
            rw [hln0] at hL7 hnl
            have hln := Lib.hid hln0
            simp only [hln0]
            clear hln0
            go_loopw [96] (fun v96 wr => ∃ (q : Nat), v96 = .int .i64 (q : Int) ∧ q ≤ ln ∧ Step (fun _ => False) w7 wr) (fun v _ => ln - (intOf v).toNat)
            case atStart => exact ⟨0, rfl, by omega, Step.refl _ _⟩
            case round =>
              obtain ⟨q, rfl, hq, hS⟩ := hrel
              have hJ8 := hJ7.still hS
              by_cases hql : q < ln
              · have hql' : ((q : Int) < (ln : Int)) := by omega
                have hqll : q < l.length := by have := hln.out; omega
                have hq8 := hL7.keep hS (fun _ _ h => h)
                obtain ⟨g, rfl⟩ := hq8.one hql
                have hx : l[q]? = some l[q] := List.getElem?_eq_getElem hqll
                obtain ⟨d0, d1, d2, d3, d4⟩ := hq8.cells hx
                have hxm := List.mem_of_getElem? hx
                have HD0 := fun w1 (hs : Step (fun _ => False) wr w1) => drained_calls (hJ8.still hs).pa (Nat.le_trans hJ8.good.len (by omega)) l[q].f0
                have hgx := hgetl _ hxm
                have hx4 := h40 _ hxm
                have hx3 : l[q].f3 ≠ 2 := fun e => by have := hkept _ hxm e; omega
                rw [hgx] at HD0
                clear hgx hxm hx hgetl h40 hkept hnum hln
                generalize l[q] = x at *
                obtain ⟨x0, x1, x2, x3, x4⟩ := x
                obtain rfl : x4 = 0 := hx4
                have hx3 : x3 ≠ 2 := hx3
                have q32 : (x3 == 2) = false := by simp [hx3]
                have HD : Hid (∀ w1, Step (fun _ => False) wr w1 → Calls Try.prog 17 #[.pointer (some ⟨p, 0, none⟩), .string x0] w1 fun e w' => e = .returned (.bool (decide (x3 = 1))) ∧ Step (fun _ => False) w1 w') := Lib.hid (fun w1 hs => (HD0 w1 hs).mono fun e w' h => ⟨by rw [h.1]; simp, h.2⟩)
                clear HD0
                go_upto_region 33 with (fail)
                refine alloc_next (cs := [.string x0, .int .i64 x1, .int .i64 x2, .int .i64 x3, .int .i64 0]) ?_
                intro w9 hE hs9
                have e0 := hE.cell (i := 0) rfl
                have e3 := hE.cell (i := 3) rfl
                have e4 := hE.cell (i := 4) rfl
                clear d0 d1 d2 d3 d4
                generalize wr.heap.size = eb at *
                have hJ9 := hJ8.still hs9
                have HD9 := Lib.hid (fun W (h : Step (fun _ => False) w9 W) => HD.out W (hs9.same h))
                have HMK := Lib.hid (fun W (h : Step (fun _ => False) w9 W) => (show Step (fun _ => False) w9 W ∧ W.cell? ⟨eb, 0, none⟩ = some (.string x0) ∧ W.cell? ⟨eb, 3, none⟩ = some (.int .i64 x3) ∧ W.cell? ⟨eb, 4, none⟩ = some (.int .i64 0) from ⟨h, (hE.keep h (fun h => h)).cell (i := 0) rfl, (hE.keep h (fun h => h)).cell (i := 3) rfl, (hE.keep h (fun h => h)).cell (i := 4) rfl⟩))
                have hst0 : Step (fun _ => False) w9 w9 := Step.refl _ _
                clear HD
                by_cases h31 : x3 = 1
                · subst h31
                  have hd : decide ((1 : Int) = 1) = true := rfl
                  rw [hd] at HD9
                  go_region_held3 (fun W => Step (fun _ => False) w9 W ∧ W.cell? ⟨eb, 0, none⟩ = some (.string x0) ∧ W.cell? ⟨eb, 3, none⟩ = some (.int .i64 1) ∧ W.cell? ⟨eb, 4, none⟩ = some (.int .i64 0))
                    ((refine HMK.out _ ?_; first | exact hst0 | exact hst0.drew | exact hst10))
                    (first | (go_at_call 17; refine (HD9.out w9.drew hst0.drew).mono ?_; rintro e10 w10 ⟨rfl, hs10⟩; have hst10 := hst0.drew.same hs10))
                  all_goals
                    go_wp2
                    exact ⟨⟨q + 1, by go_num, by omega, (hS.same hs9).same (by first | exact hst10 | exact hst0.drew | exact hst0)⟩, by simp [intOf]; omega⟩
                · have hd : decide (x3 = 1) = false := decide_eq_false h31
                  have q31 : (x3 == 1) = false := by simp [h31]
                  rw [hd] at HD9
                  go_region_held3 (fun W => Step (fun _ => False) w9 W ∧ W.cell? ⟨eb, 0, none⟩ = some (.string x0) ∧ W.cell? ⟨eb, 3, none⟩ = some (.int .i64 x3) ∧ W.cell? ⟨eb, 4, none⟩ = some (.int .i64 0))
                    ((refine HMK.out _ ?_; first | exact hst0 | exact hst0.drew | exact hst10))
                    (first | (go_at_call 17; refine (HD9.out w9.drew hst0.drew).mono ?_; rintro e10 w10 ⟨rfl, hs10⟩; have hst10 := hst0.drew.same hs10))
                  all_goals
                    go_wp2
                    exact ⟨⟨q + 1, by go_num, by omega, (hS.same hs9).same (by first | exact hst10 | exact hst0.drew | exact hst0)⟩, by simp [intOf]; omega⟩
              · obtain rfl : q = ln := by omega
                have HB := busy_calls hJ8.pa hJ8.good.len (fun x hx => by have := hJ8.good.num x hx; omega)
                rw [hsum] at HB
                clear hgetl h40 hkept hnum hln hsum
                go_wp2_with (go_at_call 14; refine HB.mono ?_; rintro e9 w9 ⟨rfl, hs9⟩)
                go_ret
                exact ⟨rfl, (hJ8.still hs9).bel⟩)
end Go.Proofs.Yteebahjpoafhmaa.Pool
