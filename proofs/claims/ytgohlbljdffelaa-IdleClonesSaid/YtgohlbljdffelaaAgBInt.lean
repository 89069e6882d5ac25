/- agenda: Len, Swap, Push, Pop of the pile. Own work of this seat. -/
import Derived.Test.YtgohlbljdffelaaAgAInt
namespace Go.Proofs.Ytgohlbljdffelaa.AgInt
open Go.RowKit Go.Proofs.Ytgohlbljdffelaa.Kit Go.Proofs.Ytgohlbljdffelaa.Cmp Go.Proofs.Ytgohlbljdffelaa.HeapP
set_option linter.unusedVariables false
set_option linter.unusedSimpArgs false

theorem len_calls (A : Option Addr) (n c : Nat) (w : World) : Calls Try.prog 128 #[.slice A n c] w fun e w' => e = .returned (.int .i64 (n : Int)) ∧ w = w' := by
  go_enter Try.func128, Try.ntmps128
  go_wp2
  go_ret
  exact ⟨rfl, rfl⟩


set_option maxRecDepth 100000 in
set_option maxHeartbeats 1000000 in
theorem swap_ne {w : World} {g i j n c bi bj : Nat} (hi : i < n) (hj : j < n) (hn : i ≠ j) (hle : n ≤ c) (ci : w.cell? ⟨g, i, none⟩ = some (.pointer (some ⟨bi, 0, none⟩))) (cj : w.cell? ⟨g, j, none⟩ = some (.pointer (some ⟨bj, 0, none⟩)))
    (fi : w.frozen? ⟨g, i, none⟩ = false) (fj : w.frozen? ⟨g, j, none⟩ = false)
    (xi : ∃ v, w.cell? ⟨bi, 3, none⟩ = some v) (xj : ∃ v, w.cell? ⟨bj, 3, none⟩ = some v) (gi : w.frozen? ⟨bi, 3, none⟩ = false) (gj : w.frozen? ⟨bj, 3, none⟩ = false) (h1 : g ≠ bi) (h2 : g ≠ bj) (h3 : bi ≠ bj) :
    Calls Try.prog 130 #[.slice (some ⟨g, 0, none⟩) n c, .int .i64 (i : Int), .int .i64 (j : Int)] w fun e w' => e = .returned (.tuple #[]) ∧
      w' = ((((w.setCell ⟨g, i, none⟩ (.pointer (some ⟨bj, 0, none⟩))).setCell ⟨g, j, none⟩ (.pointer (some ⟨bi, 0, none⟩))).setCell ⟨bj, 3, none⟩ (.int .i64 (i : Int))).setCell ⟨bi, 3, none⟩ (.int .i64 (j : Int))).drew.drew := by
  have hn' : ¬ (j = i) := fun e => hn e.symm
  have i1 : (0 : Int) ≤ (i : Int) := by omega
  have i2 : (i : Int) < (n : Int) := by omega
  have j1 : (0 : Int) ≤ (j : Int) := by omega
  have j2 : (j : Int) < (n : Int) := by omega
  obtain ⟨vi, xi⟩ := xi
  obtain ⟨vj, xj⟩ := xj
  go_enter Try.func130, Try.ntmps130
  go_wp2
  go_region
  all_goals go_wp2
  all_goals go_region
  go_end0
  exact ⟨rfl, rfl⟩

set_option maxRecDepth 100000 in
set_option maxHeartbeats 1000000 in
theorem swap_eq {w : World} {g i n c bi : Nat} (hi : i < n) (hle : n ≤ c) (ci : w.cell? ⟨g, i, none⟩ = some (.pointer (some ⟨bi, 0, none⟩)))
    (fi : w.frozen? ⟨g, i, none⟩ = false) (xi : ∃ v, w.cell? ⟨bi, 3, none⟩ = some v) (gi : w.frozen? ⟨bi, 3, none⟩ = false) (h1 : g ≠ bi) :
    Calls Try.prog 130 #[.slice (some ⟨g, 0, none⟩) n c, .int .i64 (i : Int), .int .i64 (i : Int)] w fun e w' => e = .returned (.tuple #[]) ∧
      w' = ((((w.setCell ⟨g, i, none⟩ (.pointer (some ⟨bi, 0, none⟩))).setCell ⟨g, i, none⟩ (.pointer (some ⟨bi, 0, none⟩))).setCell ⟨bi, 3, none⟩ (.int .i64 (i : Int))).setCell ⟨bi, 3, none⟩ (.int .i64 (i : Int))).drew.drew := by
  have i1 : (0 : Int) ≤ (i : Int) := by omega
  have i2 : (i : Int) < (n : Int) := by omega
  obtain ⟨vi, xi⟩ := xi
  go_enter Try.func130, Try.ntmps130
  go_wp2
  go_region
  all_goals go_wp2
  all_goals go_region
  go_end0
  exact ⟨rfl, rfl⟩

theorem nd_blk {xs : List It} (h : (xs.map (·.blk)).Nodup) {i j : Nat} (hi : i < xs.length) (hj : j < xs.length) (e : (lg xs i).blk = (lg xs j).blk) : i = j := by
  rcases Nat.lt_trichotomy i j with h1 | h1 | h1
  · have := (List.pairwise_iff_getElem.1 h) i j (by simpa using hi) (by simpa using hj) h1
    simp only [List.getElem_map] at this
    rw [lg_get hi, lg_get hj] at e
    exact absurd e this
  · exact h1
  · have := (List.pairwise_iff_getElem.1 h) j i (by simpa using hj) (by simpa using hi) h1
    simp only [List.getElem_map] at this
    rw [lg_get hi, lg_get hj] at e
    exact absurd e.symm this
theorem lg_mem {xs : List It} {i : Nat} (hi : i < xs.length) : lg xs i ∈ xs := by rw [lg_get hi]; exact List.getElem_mem hi
theorem sw_map (xs : List It) (i j : Nat) : (sw xs i j).map ptr = ((xs.map ptr).set i (ptr (lg xs j))).set j (ptr (lg xs i)) := by
  unfold sw; rw [List.map_set, List.map_set]

theorem swap_calls {w : World} {a : Nat} {M : Value} {turn : Int} {A : Option Addr} {c : Nat} {xs : List It} (h : HM w a M turn A c xs) {i j : Nat} (hi : i < xs.length) (hj : j < xs.length) :
    Calls Try.prog 130 #[.slice A xs.length c, .int .i64 (i : Int), .int .i64 (j : Int)] w fun e w' => e = .returned (.tuple #[]) ∧ HM w' a M turn A c (sw xs i j) ∧ Step (foot A xs) w w' := by
  obtain ⟨g, rfl, hci, hbi⟩ := h.pick hi
  obtain ⟨g', e', hcj, hbj⟩ := h.pick hj
  obtain rfl : g = g' := by simpa using e'
  have fi := h.row.free i
  have fj := h.row.free j
  obtain ⟨ni, mi⟩ := h.na _ (lg_mem hi)
  obtain ⟨nj, mj⟩ := h.na _ (lg_mem hj)
  have hga : g ≠ a := fun e => h.nA (by rw [e]; rfl)
  have hgi : g ≠ (lg xs i).blk := fun e => mi (by rw [← e]; rfl)
  have hgj : g ≠ (lg xs j).blk := fun e => mj (by rw [← e]; rfl)
  have foot_r : ∀ k, k = g → foot (some ⟨g, 0, none⟩) xs k := fun k e => .inl (by rw [e]; rfl)
  have foot_i : ∀ k, k = (lg xs i).blk → foot (some ⟨g, 0, none⟩) xs k := fun k e => .inr ⟨_, lg_mem hi, e.symm⟩
  have foot_j : ∀ k, k = (lg xs j).blk → foot (some ⟨g, 0, none⟩) xs k := fun k e => .inr ⟨_, lg_mem hj, e.symm⟩
  by_cases hn : i = j
  · subst hn
    rw [sw_self hi]
    refine (swap_eq hi h.row.le hci fi ⟨_, hbi.cell (i := 3) rfl⟩ (hbi.free 3) hgi).mono ?_
    rintro e w' ⟨rfl, rfl⟩
    have s1 : Step (· = g) w (w.setCell ⟨g, i, none⟩ (.pointer (some ⟨(lg xs i).blk, 0, none⟩))) := step_put _ _ _ _
    have s2 : Step (· = g) _ ((w.setCell ⟨g, i, none⟩ (.pointer (some ⟨(lg xs i).blk, 0, none⟩))).setCell ⟨g, i, none⟩ (.pointer (some ⟨(lg xs i).blk, 0, none⟩))) := step_put _ _ _ _
    have s12 := s1.same s2
    have s3 := step_put ((w.setCell ⟨g, i, none⟩ (.pointer (some ⟨(lg xs i).blk, 0, none⟩))).setCell ⟨g, i, none⟩ (.pointer (some ⟨(lg xs i).blk, 0, none⟩))) (lg xs i).blk 3 (.int .i64 (i : Int))
    have s4 := step_put (((w.setCell ⟨g, i, none⟩ (.pointer (some ⟨(lg xs i).blk, 0, none⟩))).setCell ⟨g, i, none⟩ (.pointer (some ⟨(lg xs i).blk, 0, none⟩))).setCell ⟨(lg xs i).blk, 3, none⟩ (.int .i64 (i : Int))) (lg xs i).blk 3 (.int .i64 (i : Int))
    have s34 := (s3.same s4).drew.drew
    have r2 := (h.row.set i (.pointer (some ⟨(lg xs i).blk, 0, none⟩))).set i (.pointer (some ⟨(lg xs i).blk, 0, none⟩))
    have e1 : ((xs.map ptr).set i (.pointer (some ⟨(lg xs i).blk, 0, none⟩))).set i (.pointer (some ⟨(lg xs i).blk, 0, none⟩)) = xs.map ptr := by
      have := sw_map xs i i
      rw [sw_self hi] at this
      exact this.symm
    rw [e1] at r2
    refine ⟨rfl, ⟨(h.blk.keep s12 (fun e => hga e.symm)).keep s34 (fun e => ni e.symm), r2.keep s34 (fun k hk e => hgi ((Option.some.inj hk).trans e)), fun k x hk => ?_, h.nd, h.na, h.nA⟩, (s12.mono (fun k _ e => foot_r k e)).same (s34.mono (fun k _ e => foot_i k e))⟩
    have hkl := (List.getElem?_eq_some_iff.1 hk).1
    obtain rfl := lg_some hk
    have hx := (h.itm k _ hk).keep s12 (fun e => (h.na _ (lg_mem hkl)).2 (by rw [e]; rfl))
    by_cases e : k = i
    · subst e
      exact ((hx.set 3 (.int .i64 (k : Int))).set 3 (.int .i64 (k : Int))).drew.drew
    · exact hx.keep s34 (fun e' => e (nd_blk h.nd hkl hi e'))
  · have hbij : (lg xs i).blk ≠ (lg xs j).blk := fun e => hn (nd_blk h.nd hi hj e)
    refine (swap_ne hi hj hn h.row.le hci hcj fi fj ⟨_, hbi.cell (i := 3) rfl⟩ ⟨_, hbj.cell (i := 3) rfl⟩ (hbi.free 3) (hbj.free 3) hgi hgj hbij).mono ?_
    rintro e w' ⟨rfl, rfl⟩
    have s1 : Step (· = g) w (w.setCell ⟨g, i, none⟩ (.pointer (some ⟨(lg xs j).blk, 0, none⟩))) := step_put _ _ _ _
    have s2 : Step (· = g) _ ((w.setCell ⟨g, i, none⟩ (.pointer (some ⟨(lg xs j).blk, 0, none⟩))).setCell ⟨g, j, none⟩ (.pointer (some ⟨(lg xs i).blk, 0, none⟩))) := step_put _ _ _ _
    have s12 := s1.same s2
    have r2 := (h.row.set i (.pointer (some ⟨(lg xs j).blk, 0, none⟩))).set j (.pointer (some ⟨(lg xs i).blk, 0, none⟩))
    have e1 : ((xs.map ptr).set i (.pointer (some ⟨(lg xs j).blk, 0, none⟩))).set j (.pointer (some ⟨(lg xs i).blk, 0, none⟩)) = (sw xs i j).map ptr := (sw_map xs i j).symm
    rw [e1] at r2
    have b2 := h.blk.keep s12 (fun e => hga e.symm)
    have i2 : ∀ k x, xs[k]? = some x → Blk ((w.setCell ⟨g, i, none⟩ (.pointer (some ⟨(lg xs j).blk, 0, none⟩))).setCell ⟨g, j, none⟩ (.pointer (some ⟨(lg xs i).blk, 0, none⟩))) x.blk 76 (icells x k) := fun k x hk =>
      (h.itm k x hk).keep s12 (fun e => (h.na _ (List.mem_of_getElem? hk)).2 (by rw [e]; rfl))
    have f12 := s12.mono (fun k _ e => foot_r k e)
    clear s12 s1 s2 hci hcj hbi hbj fi fj
    generalize (w.setCell ⟨g, i, none⟩ (.pointer (some ⟨(lg xs j).blk, 0, none⟩))).setCell ⟨g, j, none⟩ (.pointer (some ⟨(lg xs i).blk, 0, none⟩)) = w2 at *
    have s3 := step_put w2 (lg xs j).blk 3 (.int .i64 (i : Int))
    have s4 := step_put (w2.setCell ⟨(lg xs j).blk, 3, none⟩ (.int .i64 (i : Int))) (lg xs i).blk 3 (.int .i64 (j : Int))
    have s34 : Step (fun k => k = (lg xs j).blk ∨ k = (lg xs i).blk) w2 _ := ((s3.mono (fun _ _ h => .inl h)).same (s4.mono (fun _ _ h => .inr h))).drew.drew
    refine ⟨rfl, ⟨?_, ?_, fun k x hk => ?_, ?_, fun x hx => h.na x ((sw_perm hi hj).mem_iff.1 hx), h.nA⟩, f12.same (s34.mono (fun k _ e => e.elim (foot_j k) (foot_i k)))⟩
    · rw [sw_length]
      exact b2.keep s34 (fun e => e.elim (fun e => nj e.symm) (fun e => ni e.symm))
    · rw [sw_length]
      exact r2.keep s34 (fun k hk e => e.elim (fun e => hgj ((Option.some.inj hk).trans e)) (fun e => hgi ((Option.some.inj hk).trans e)))
    · have hkl : k < xs.length := by have := (List.getElem?_eq_some_iff.1 hk).1; rwa [sw_length] at this
      rw [sw_get hi hj hkl] at hk
      obtain rfl := Option.some.inj hk
      by_cases e1 : k = i
      · subst e1
        rw [swp_l]
        have := ((i2 j _ (get_lg hj)).set 3 (.int .i64 (k : Int))).other (p := ⟨(lg xs k).blk, 3, none⟩) (fun e => hbij e.symm) (.int .i64 (j : Int))
        exact this.drew.drew
      · by_cases e2 : k = j
        · subst e2
          rw [swp_r]
          have := ((i2 i _ (get_lg hi)).other (p := ⟨(lg xs k).blk, 3, none⟩) hbij (.int .i64 (i : Int))).set 3 (.int .i64 (k : Int))
          exact this.drew.drew
        · rw [swp_o _ e1 e2]
          exact (i2 k _ (get_lg hkl)).keep s34 (fun e => e.elim (fun e => e2 (nd_blk h.nd hkl hj e)) (fun e => e1 (nd_blk h.nd hkl hi e)))
    · exact ((sw_perm hi hj).map (·.blk)).nodup_iff.2 h.nd
theorem foot_sw {A : Option Addr} {xs : List It} {i j : Nat} (hi : i < xs.length) (hj : j < xs.length) (k : Nat) : foot A (sw xs i j) k ↔ foot A xs k := by
  unfold foot
  constructor
  · rintro (h | ⟨x, hx, e⟩)
    · exact .inl h
    · exact .inr ⟨x, (sw_perm hi hj).mem_iff.1 hx, e⟩
  · rintro (h | ⟨x, hx, e⟩)
    · exact .inl h
    · exact .inr ⟨x, (sw_perm hi hj).mem_iff.2 hx, e⟩
end Go.Proofs.Ytgohlbljdffelaa.AgInt
