/- The numbers handed in: Shuffle. Own work of this seat. -/
import Derived.Test.YtlmppdpjjkdoaaaDraws3
import Derived.BigRegion
namespace Go.Proofs.Ytlmppdpjjkdoaaa.Draws
open Go.RowKit Go.Proofs.Ytlmppdpjjkdoaaa.Kit Go.Proofs.Ytlmppdpjjkdoaaa.PDrawsTwo Go.Proofs.YtlmppdpjjkdoaaaW.PrintWords Go.Proofs.YtlmppdpjjkdoaaaW.PrintLast Go.Proofs.YtlmppdpjjkdoaaaW.PrintMore
set_option linter.unusedVariables false
set_option linter.unusedSimpArgs false
attribute [local go_sem] max2_int min2_int max_two min_two

def ivals (xs : List Int) : List Value := xs.map fun x => .int .i64 x
theorem ivals_length (xs : List Int) : (ivals xs).length = xs.length := by simp [ivals]
theorem ivals_one (xs : List Int) : ∀ v ∈ ivals xs, v.oneCell' = true := by
  intro v hv
  obtain ⟨x, _, rfl⟩ := List.mem_map.1 hv
  rfl
/-- 0, 1, .., k - 1. -/
def iota (k : Nat) : List Int := (List.range k).map fun (i : Nat) => (i : Int)
theorem iota_succ (k : Nat) : iota (k + 1) = iota k ++ [(k : Int)] := by simp [iota, List.range_succ]
theorem iota_length (k : Nat) : (iota k).length = k := by simp [iota]

theorem seg_put {w : World} {e : TypeId} {g o n c : Nat} {xs : List Value} (h : Seg w e (some ⟨g, o, none⟩) n c xs) (i : Nat) (u : Value) : Seg (w.setCell ⟨g, o + i, none⟩ u) e (some ⟨g, o, none⟩) n c (xs.set i u) := by
  obtain ⟨hl, ⟨h0, _, _⟩ | ⟨g', o', cur, he, hg, hnc, hcs, hcell⟩⟩ := h
  · cases h0
  · obtain ⟨rfl, rfl⟩ : g = g' ∧ o = o' := by simpa using he
    refine ⟨by simpa using hl, .inr ⟨g, o, cur.setIfInBounds (o + i) u, rfl, by simp [World.setCell, Array.getElem?_modify, hg], hnc, by simpa using hcs, fun j v hj => ?_⟩⟩
    rw [List.getElem?_set] at hj
    rw [Array.getElem?_setIfInBounds]
    by_cases hij : i = j
    · subst hij
      rw [if_pos rfl] at hj ⊢
      split at hj
      · rw [if_pos (by omega)]; exact hj
      · cases hj
    · rw [if_neg hij] at hj
      rw [if_neg (by omega)]
      exact hcell j v hj
theorem ivals_set (xs : List Int) (i : Nat) (x : Int) : (ivals xs).set i (.int .i64 x) = ivals (xs.set i x) := by simp [ivals, List.map_set]

set_option maxRecDepth 100000 in
set_option maxHeartbeats 1000000 in
theorem shuffle_calls {base : Nat} {w : World} {p : Nat} {xs : List Int} {s : Int} {A : Option Addr} {n c : Nat} (h : DAt base w p xs s A n c) (hs0 : 0 ≤ s) (hs1 : s ≤ 10000) (hn : n ≤ 9223372036854775807) (hbw : base ≤ w.heap.size) (m : Nat) (hm : m ≤ 100) (hm0 : (0 : Int) < (m : Int)) :
    Calls Try.prog 39 #[.pointer (some ⟨p, 0, none⟩), .int .i64 (m : Int)] w fun e w' => ∃ B cB os, e = .returned (.slice B m cB) ∧ Seg w' 3 B m cB (ivals os) ∧ os.Perm (iota m) ∧ (∀ k, blockOf B = some k → w.heap.size ≤ k) ∧ Step (fun k => k = p ∨ blockOf A = some k) w w' ∧ Below base w w' := by
  obtain ⟨i0, hi0, hp⟩ : ∃ i, Try.prog.info? 3 = some i ∧ (i.zero, i.size, i.bytes) = (some (Value.int .i64 0), 1, 8) := by
    exact Option.map_eq_some_iff.1 (by kernel_rfl : (Try.prog.info? 3).map (fun i => (i.zero, i.size, i.bytes)) = some (some (Value.int .i64 0), 1, 8))
  simp only [Prod.mk.injEq] at hp
  obtain ⟨hz0, hi1, hy0⟩ := hp
  have hmin : ¬ ((4096 : Int) < (m : Int)) := by omega
  go_enter Try.func39, Try.ntmps39
  go_wp2
  go_loopw [5, 12] (fun v5 v12 wr => ∃ (k : Nat) (B : Option Addr) (cB : Nat), k ≤ m ∧ v12 = .int .i64 (k : Int) ∧ v5 = .slice B k cB ∧ Seg wr 3 B k cB (ivals (iota k)) ∧ (∀ j, blockOf B = some j → w.heap.size ≤ j) ∧ Step (fun _ => False) w wr) (fun _ i _ => m - (intOf i).toNat)
  case atStart => exact ⟨0, none, 0, by omega, rfl, rfl, seg_nil _ _, (by intro j hj; cases hj), Step.refl _ _⟩
  case round =>
    obtain ⟨k, B, cB, hk, rfl, rfl, hg, hfar, hS⟩ := hrel
    by_cases hlt : k < m
    · have hlt' : (k : Int) < (m : Int) := by omega
      go_wp2_with (at_builtin; refine wpList_append_seg_seg _ rfl (.tmp 15) (.tmp 17) 68 rfl 3 i0 _ Try.underlying68 hi0 hz0 rfl hi1 hy0 rfl (hg.keep (Step.alloc (Step.refl (fun _ => False) wr) _) (fun _ _ h => h)) rfl (((blk_new wr [.int .i64 (k : Int)] 3).seg (n := 1) rfl).src) (ivals_one [(k : Int)]) (by omega) ?_; intro B2 c2' w2 hg2 hs2 hat2)
      have hS1 : Step (fun _ => False) w (wr.alloc (.cells #[Value.int .i64 (k : Int)] 3)) := hS.same (Step.alloc (Step.refl (fun _ => False) wr) _)
      have hS2 := hS1.trans hs2 (fun j hj hg => absurd (hfar j hg) (Nat.not_le.2 hj))
      refine ⟨⟨k + 1, B2, c2', by omega, by go_num, rfl, ?_, fun j hj => ?_, hS2⟩, by simp [intOf]; omega⟩
      · rw [iota_succ]; simpa [ivals] using hg2
      · rcases hat2 with hat2 | ⟨i, hi, hil⟩
        · exact hfar j (hat2 ▸ hj)
        · obtain rfl : i = j := Option.some.inj (hi.symm.trans hj)
          exact Nat.le_trans hS1.size hil
    · obtain rfl : k = m := by omega
      clear hi0 hz0 hi1 hy0 hlt
      have hD0 := h.keep hS
      have hb0 : Below base w wr := hS.below hbw (fun _ h => h.elim)
      have hpw : p < w.heap.size := h.blk.lt
      have hAw : ∀ j, blockOf A = some j → j < w.heap.size := fun j hj => h.seg.lt hj
      have hlow := h.low
      have hfarA := h.far
      clear h
      go_wp2
      go_loopw [7] (fun v7 wq => ∃ (t : Nat) (xs' : List Int) (s' : Int) (n' : Nat) (os : List Int), 1 ≤ t ∧ t ≤ k ∧ v7 = .int .i64 (t : Int) ∧ DAt base wq p xs' s' A n' c ∧ 0 ≤ s' ∧ s' + t ≤ s + k ∧ n' ≤ n ∧ Seg wq 3 B k cB (ivals os) ∧ os.Perm (iota k) ∧ Step (fun j => j = p ∨ blockOf A = some j) w wq ∧ Below base w wq) (fun v _ => (intOf v).toNat)
      case atStart => exact ⟨k, xs, s, n, iota k, by omega, by omega, rfl, hD0, hs0, by omega, by omega, hg, List.Perm.refl _, hS.mono (fun _ _ h => h.elim), hb0⟩
      case round =>
        obtain ⟨t, xs', s', n', os, ht1, htk, rfl, hD, hs', hst, hn', hgo, hperm, hSq, hbq⟩ := hrel
        by_cases hgt : 1 < t
        · have hgt' : (1 : Int) < (t : Int) := by omega
          have h1 := head_fits hD.fits
          have i1 := below_in h1.1 h1.2 (show 1 ≤ (t : Int) by omega) (by omega)
          have HP := pick_calls hD hs' (by omega) (by omega) (Nat.le_trans hbw hSq.size) (t : Int) (by omega) _ (below_is h1.1 h1.2 (by omega) (by omega))
          clear h1
          generalize xs'.headD 0 * (t : Int) / 18446744073709551616 = r at *
          obtain ⟨r0, r1⟩ := i1
          go_upto_region 11 with (first | (go_at_call 60; refine HP.mono ?_; rintro e3 w3 ⟨rfl, hD3, hb3, hst3⟩))
          have hnot : ∀ b, blockOf B = some b → ¬ (b = p ∨ blockOf A = some b) := fun b hb hor => by
            have := hfar b hb
            rcases hor with rfl | hor
            · omega
            · have := hAw b hor; omega
          have hg3 := hgo.keep hst3 (fun b hb => hnot b hb)
          obtain ⟨rn, rfl⟩ := Int.eq_ofNat_of_zero_le r0
          obtain ⟨j, rfl⟩ : ∃ j, t = j + 1 := ⟨t - 1, by omega⟩
          have hlo : os.length = k := by have := hg3.len; rwa [ivals_length] at this
          have hg3' := hg3
          obtain ⟨_, ⟨rfl, _, he⟩ | ⟨g, o, cur, rfl, hgc, hkc, hcs, hcell⟩⟩ := hg3
          · have : os.length = 0 := by rw [← ivals_length, he]; rfl
            omega
          have hjk : j < k := by omega
          have hrk : rn < k := by omega
          have hcj : w3.cell? ⟨g, o + j, none⟩ = some (.int .i64 os[j]) := by simp [World.cell?, hgc, hcell j _ (show (ivals os)[j]? = some (.int .i64 os[j]) by simp [ivals, hlo, hjk])]
          have hcr : w3.cell? ⟨g, o + rn, none⟩ = some (.int .i64 os[rn]) := by simp [World.cell?, hgc, hcell rn _ (show (ivals os)[rn]? = some (.int .i64 os[rn]) by simp [ivals, hlo, hrk])]
          have hfj : w3.frozen? ⟨g, o + j, none⟩ = false := by simp [World.frozen?, hgc]
          have hfr : w3.frozen? ⟨g, o + rn, none⟩ = false := by simp [World.frozen?, hgc]
          have hpm := @List.set_set_perm Int os j rn (by omega) (by omega)
          generalize os[j] = oj at *
          generalize os[rn] = or at *
          have q1 : (rn : Int) < (k : Int) := by omega
          have q2 : (j : Int) < (k : Int) := by omega
          have q3 : ((j + 1 : Nat) : Int) - 1 = (j : Int) := by omega
          have q4 : wrap64 (((j + 1 : Nat) : Int) - 1) = (j : Int) := by unfold wrap64; omega
          have hge : w.heap.size ≤ g := hfar g rfl
          have hle := less_le xs' s'
          have hs5 := seg_put (seg_put hg3' j (.int .i64 or)) rn (.int .i64 oj)
          rw [ivals_set, ivals_set] at hs5
          have hb5 : Step (· = g) w3 (((w3.setCell ⟨g, o + j, none⟩ (.int .i64 or)).setCell ⟨g, o + rn, none⟩ (.int .i64 oj)).drew) := (((Step.refl (· = g) w3).setCell (p := ⟨g, o + j, none⟩) (fun _ => rfl) _).setCell (p := ⟨g, o + rn, none⟩) (fun _ => rfl) _).drew
          have hs6 : Seg (((w3.setCell ⟨g, o + j, none⟩ (.int .i64 or)).setCell ⟨g, o + rn, none⟩ (.int .i64 oj)).drew) 3 (some ⟨g, o, none⟩) k cB (ivals ((os.set j or).set rn oj)) := hs5
          have hS6 := (hSq.same hst3).trans hb5 (fun i hi e => by have e' : i = g := e; omega)
          have hD6 : DAt base (((w3.setCell ⟨g, o + j, none⟩ (.int .i64 or)).setCell ⟨g, o + rn, none⟩ (.int .i64 oj)).drew) p xs'.tail (less xs' s') A (n' - 1) c := ⟨hD3.low, hD3.blk.keep hb5 (fun e => by have e' : p = g := e; omega), hD3.seg.keep hb5 (fun i hi e => by have e' : i = g := e; have := hAw i hi; omega), hD3.far, hD3.fits⟩
          have hB6 : Below base w (((w3.setCell ⟨g, o + j, none⟩ (.int .i64 or)).setCell ⟨g, o + rn, none⟩ (.int .i64 oj)).drew) := (hbq.trans hb3).trans (hb5.below (Nat.le_trans hbw (hSq.same hst3).size) (fun i e => by have e' : i = g := e; omega))
          have hp6 := hpm.trans hperm
          clear hs5 hb5 hg3' hcell hgc hpm hperm hD3 hD hb3 hbq hSq hst3 hgo HP
          by_cases hjr : j = rn
          · subst hjr
            obtain rfl : oj = or := by
              have := hcj.symm.trans hcr
              simpa using this
            go_region
            generalize (((w3.setCell ⟨g, o + j, none⟩ (.int .i64 oj)).setCell ⟨g, o + j, none⟩ (.int .i64 oj)).drew) = w6 at *
            go_wp2
            exact ⟨⟨j, xs'.tail, less xs' s', n' - 1, _, by omega, by omega, rfl, hD6, by omega, by omega, by omega, hs6, hp6, hS6, hB6⟩, by simp [intOf]⟩
          · have hn1 : ¬ (o + j = o + rn) := by omega
            have hn2 : ¬ (o + rn = o + j) := by omega
            go_region
            generalize (((w3.setCell ⟨g, o + j, none⟩ (.int .i64 or)).setCell ⟨g, o + rn, none⟩ (.int .i64 oj)).drew) = w6 at *
            go_wp2
            exact ⟨⟨j, xs'.tail, less xs' s', n' - 1, _, by omega, by omega, rfl, hD6, by omega, by omega, by omega, hs6, hp6, hS6, hB6⟩, by simp [intOf]⟩
        · obtain rfl : t = 1 := by omega
          go_wp2
          go_ret
          exact ⟨B, cB, os, rfl, hgo, hperm, hfar, hSq, hbq⟩

set_option maxRecDepth 100000 in
set_option maxHeartbeats 1000000 in
theorem shuffle0_calls (w : World) (p : Nat) :
    Calls Try.prog 39 #[.pointer (some ⟨p, 0, none⟩), .int .i64 0] w fun e w' => e = .returned (.slice none 0 0) ∧ w' = w := by
  go_enter Try.func39, Try.ntmps39
  go_wp2
  go_loopw [5, 12] (fun v5 v12 wr => v12 = .int .i64 0 ∧ v5 = .slice none 0 0 ∧ wr = w) (fun _ i _ => 0)
  case atStart => exact ⟨rfl, rfl, rfl⟩
  case round =>
    obtain ⟨rfl, rfl, rfl⟩ := hrel
    go_wp2
    go_loopw [7] (fun v7 wq => v7 = .int .i64 0 ∧ wq = wr) (fun v _ => 0)
    case atStart => exact ⟨rfl, rfl⟩
    case round =>
      obtain ⟨rfl, rfl⟩ := hrel
      go_wp2
      go_ret
      exact ⟨rfl, rfl⟩
end Go.Proofs.Ytlmppdpjjkdoaaa.Draws
