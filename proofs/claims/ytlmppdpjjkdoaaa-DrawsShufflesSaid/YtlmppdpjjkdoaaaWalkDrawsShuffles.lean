/- The walk of stewardlaw14.DrawsShuffles. Own work of this seat. -/
import Derived.Test.YtlmppdpjjkdoaaaDraws4
import Derived.Test.YtlmppdpjjkdoaaaWalkDrawsTwo
namespace Go.Proofs.Ytlmppdpjjkdoaaa.Draws
open Go.RowKit Go.Proofs.Ytlmppdpjjkdoaaa.Kit Go.Proofs.Ytlmppdpjjkdoaaa.PDrawsTwo Go.Proofs.YtlmppdpjjkdoaaaW.PrintWords Go.Proofs.YtlmppdpjjkdoaaaW.PrintLast Go.Proofs.YtlmppdpjjkdoaaaW.PrintMore
set_option linter.unusedVariables false
set_option linter.unusedSimpArgs false
attribute [local go_sem] max2_int min2_int max_two min_two

def bvals (bl : List Bool) : List Value := bl.map fun b => .bool b
theorem bvals_set (bl : List Bool) (i : Nat) (b : Bool) : (bvals bl).set i (.bool b) = bvals (bl.set i b) := by simp [bvals, List.map_set]

/-- make([]bool, m). -/
theorem wpList_make_bools {P : Program} {ops : Array Oper} {rest : List Oper} {o : Oper} {a : Act} {Q : Exit → Act → World → Prop} {w : World} (hgd : o.guard = none) (t e : TypeId) (x y : Operand) (ho : o.op = .makeSlice t x y) (m : Nat) (hm : m ≤ 1000000)
    (hx : a.eval x = .int .i64 (m : Int)) (hy : a.eval y = .int .i64 (m : Int)) (ht : P.underlying t = some (.slice e)) (i : TypeInfo) (hi : P.info? e = some i) (hz : i.zero = some (.bool false)) (hs : i.size = 1) (hb : i.bytes = 1)
    (h : ∀ w', Blk w' w.heap.size e (bvals (List.replicate m false)) → Step (fun _ => False) w w' → wpList P ops Q rest (a.put o.dst (.slice (some ⟨w.heap.size, 0, none⟩) m m)) w') : wpList P ops Q (o :: rest) a w := by
  refine wpList_plain hgd fun K hK => ?_
  have hr := run_make (P := P) w t e i (.bool false) ht hi hz .i64 .i64 (m : Int) (m : Int) (by omega) (by omega) (by rw [hb]; omega) (by omega)
  simp only [Int.toNat_natCast, hs, Nat.mul_one] at hr
  have hmc : madeCells (Value.bool false).cells m = (bvals (List.replicate m false)).toArray := by
    apply Array.ext
    · simp [size_madeCells, bvals]
    · intro j h1 h2
      simp [madeCells, bvals, Value.cells, Nat.mod_one]
  rw [hmc] at hr
  unfold Oper.wp execOp
  simp only [ho, hx, hy, Sem.run_bind, hr]
  exact hK _ _ (h _ (blk_new w _ e) ((Step.refl _ _).alloc _))

set_option maxRecDepth 100000 in
set_option maxHeartbeats 1000000 in
theorem law_shuffles_calls (A : Option Addr) (c : Nat) (l : List Int) (N : Int) (w : World) (hr : Kd.C (Kd.int .u64) w A l.length l) (hc : l.length ≤ c) (hf : Fits l) :
    Calls Try.prog 10 #[.slice A l.length c, .int .i64 N] w fun e w' => e = .returned (.bool true) ∧ Below w.heap.size w w' := by
  obtain ⟨q, hm, hml, hm9, hmn⟩ : ∃ m : Nat, (if (100 : Int) < (l.length : Int) then (100 : Int) else (l.length : Int)) = (m : Int) ∧ m ≤ l.length ∧ m ≤ 100 ∧ (m : Int) ≤ (c : Int) := by
    by_cases h9 : (100 : Int) < (l.length : Int)
    · exact ⟨100, if_pos h9, by omega, by omega, by omega⟩
    · exact ⟨l.length, if_neg h9, by omega, by omega, by omega⟩
  have hfit := fits_take hf q
  have hA : ∀ w', Below w.heap.size w w' → Src w' A q (uvals (l.take q)) := fun w' hb => src_take (Kd.C_below hr hb) q hml
  generalize l.take q = ys at *
  generalize l.length = L at *
  clear hr
  have m0 : (0 : Int) ≤ (q : Int) := by omega
  obtain ⟨i0, hi0, hp⟩ : ∃ i, Try.prog.info? 4 = some i ∧ (i.zero, i.size, i.bytes) = (some (Value.bool false), 1, 1) := by
    exact Option.map_eq_some_iff.1 (by kernel_rfl : (Try.prog.info? 4).map (fun i => (i.zero, i.size, i.bytes)) = some (some (Value.bool false), 1, 1))
  simp only [Prod.mk.injEq] at hp
  obtain ⟨hz0, hi1, hy0⟩ := hp
  obtain ⟨X, hX, hX100⟩ : ∃ X : Int, (if (100 : Int) < N then (100 : Int) else N) = X ∧ X ≤ 100 := ⟨_, rfl, by split <;> omega⟩
  obtain ⟨M, hM, hM100⟩ : ∃ M : Nat, (if (0 : Int) < X then X else 0) = (M : Int) ∧ M ≤ 100 := by
    refine ⟨(if (0 : Int) < X then X else 0).toNat, ?_, ?_⟩ <;> split <;> omega
  go_enter Try.func10, Try.ntmps10
  go_upto_region 6 with (first | (go_at_call 34; refine (awake_calls _).mono ?_; rintro e0 w0 ⟨rfl, hb0⟩) | (go_at_call 35; refine (new_calls _).mono ?_; rintro e1 w1 ⟨p, rfl, hD1, hb1⟩))
  have hb := hb0.trans (hb1.mono hb0.size)
  have HPU := push_calls (cB := c) hD1 (hA _ hb) hfit (by omega)
  rw [Nat.zero_add, List.nil_append] at HPU
  clear hA
  have hw1 : w0.heap.size ≤ w1.heap.size := hb1.size
  go_upto_region 7 with (fail)
  go_upto_region 8 with (first | (go_at_call 36; refine HPU.mono ?_; rintro e2 w2 ⟨rfl, ⟨A2, c2, hD2⟩, hb2⟩))
  have hw2 := Nat.le_trans hw1 hb2.size
  have hB := hb.trans (hb2.mono hb0.size)
  clear hb HPU hD1 hb1 hfit hb2
  go_upto_region 9 with ((with_reducible refine gate_dst (N := 26) rfl ?_); refine wpList_make_bools rfl 26 4 _ _ rfl M (by omega) rfl rfl Try.underlying26 i0 hi0 hz0 hi1 hy0 ?_; intro w3 hK3 hs3)
  have hD3 := hD2.keep hs3
  have hB3 := hB.trans (hs3.below (Nat.le_trans hb0.size hw2) (fun _ h => h.elim))
  have hw3 := Nat.le_trans hw2 hs3.size
  have hpw := hD2.blk.lt
  have hAw : ∀ j, blockOf A2 = some j → j < w2.heap.size := fun j hj => hD2.seg.lt hj
  have hsbw : w.heap.size ≤ w2.heap.size := Nat.le_trans hb0.size hw2
  have hlt3 := hK3.lt
  generalize w2.heap.size = sb at *
  clear hB hD2 hs3
  by_cases hM0 : M = 0
  · subst hM0
    go_wp2_with (first | (go_at_call 39; refine (shuffle0_calls _ _).mono ?_; rintro e4 w4 ⟨rfl, rfl⟩))
    go_loopw [32] (fun v wr => v = .int .i64 0 ∧ wr = w4) (fun _ _ => 0)
    case atStart => exact ⟨rfl, rfl⟩
    case round =>
      obtain ⟨rfl, rfl⟩ := hrel
      go_wp2
      go_ret
      exact ⟨rfl, hB3⟩
  · have hMp : (0 : Int) < (M : Int) := by omega
    have HSH := shuffle_calls hD3 (by omega) (by omega) (by omega) (by omega) M hM100 hMp
    go_wp2_with (first | (go_at_call 39; refine HSH.mono ?_; rintro e4 w4 ⟨B, cB, os, rfl, hg4, hperm, hfar, hst4, hb4⟩))
    have hK4 := hK3.keep hst4 (fun e => by
      rcases e with e | e
      · omega
      · have := hAw sb e; omega)
    have hB4 := hB3.trans (hst4.below (Nat.le_trans hsbw (Nat.le_of_lt hlt3)) (fun j e => by
      rcases e with e | e
      · have := hD3.low; have := hb0.size; omega
      · exact Nat.le_trans hb0.size (hD3.far j e).1))
    have hlo : os.length = M := by have := hperm.length_eq; rwa [iota_length] at this
    have hnd : os.Nodup := (hperm.nodup_iff).2 (by
      unfold iota
      rw [List.Nodup, List.pairwise_map]
      exact (List.pairwise_lt_range).imp (fun h => by omega))
    have hin : ∀ x ∈ os, 0 ≤ x ∧ x < (M : Int) := fun x hx => by
      obtain ⟨i, hi, rfl⟩ := List.mem_map.1 (hperm.mem_iff.1 hx)
      have := List.mem_range.1 hi
      omega
    have hfarB : ∀ j, blockOf B = some j → j ≠ sb ∧ w.heap.size ≤ j := fun j hj => by
      have := hfar j hj
      exact ⟨by omega, by omega⟩
    clear HSH hperm hst4 hK3 hD3 hfar hb4 hB3
    go_loopw [32] (fun v wr => ∃ (i : Nat) (bl : List Bool), i ≤ M ∧ v = .int .i64 (i : Int) ∧ Blk wr sb 4 (bvals bl) ∧ bl.length = M ∧ (∀ j : Nat, j < M → bl[j]? = some (decide ((j : Int) ∈ os.take i))) ∧ Seg wr 3 B M cB (ivals os) ∧ Below w.heap.size w wr) (fun v _ => M - (intOf v).toNat)
    case atStart => exact ⟨0, List.replicate M false, by omega, rfl, hK4, by simp, fun j hj => by simp [hj], hg4, hB4⟩
    case round =>
      obtain ⟨i, bl, hi, rfl, hK, hbl, hse, hg, hBr⟩ := hrel
      by_cases hlt : i < M
      · have hlt' : (i : Int) < (M : Int) := by omega
        obtain ⟨g, o, rfl, hcell⟩ := hg.cell (i := i) (u := .int .i64 os[i]) (by simp [ivals, hlo, hlt])
        have hbd := hin os[i] (List.getElem_mem (by omega))
        have htk : os.take (i + 1) = os.take i ++ [os[i]] := by rw [List.take_add_one, List.getElem?_eq_getElem (by omega)]; rfl
        have hnot : os[i] ∉ os.take i := by
          have hn := hnd.sublist (List.take_sublist (i + 1) os)
          rw [htk, List.nodup_append] at hn
          exact fun hmem => hn.2.2 _ hmem _ (by simp) rfl
        generalize os[i] = x at *
        obtain ⟨d, rfl⟩ := Int.eq_ofNat_of_zero_le hbd.1
        have hd : d < M := by omega
        have hsd : bl[d]? = some false := by rw [hse d hd, decide_eq_false hnot]
        have hcd : wr.cell? ⟨sb, d, none⟩ = some (.bool false) := hK.cell (by simp [bvals, hsd])
        have hfd := hK.free d
        have q1 : (d : Int) < (M : Int) := by omega
        have q2 : ¬ ((d : Int) < 0) := by omega
        have q3 : ¬ ((d : Int) ≥ (M : Int)) := by omega
        go_wp2
        have hge := hfarB g rfl
        have hsg : Step (· = sb) wr (wr.setCell ⟨sb, d, none⟩ (.bool true)) := step_put wr sb d _
        have hK5 := hK.set d (.bool true)
        rw [bvals_set] at hK5
        refine ⟨⟨i + 1, bl.set d true, by omega, by go_num, hK5, by simpa using hbl, fun j hj => ?_, hg.keep hsg (fun k hk e => hge.1 (by have e' : k = sb := e; have : g = k := Option.some.inj hk; omega)), hBr.trans (hsg.below (Nat.le_trans hsbw (Nat.le_of_lt hK.lt)) (fun k e => by have e' : k = sb := e; omega))⟩, by simp [intOf]; omega⟩
        · rw [List.getElem?_set, htk]
          by_cases e : d = j
          · subst e
            rw [if_pos rfl, if_pos (by omega)]
            simp
          · rw [if_neg e, hse j hj]
            have : (j : Int) ≠ (d : Int) := by omega
            simp [this]
      · obtain rfl : i = M := by omega
        go_wp2
        go_ret
        exact ⟨rfl, hBr⟩
end Go.Proofs.Ytlmppdpjjkdoaaa.Draws
