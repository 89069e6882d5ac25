/- choice: Rank of two, and the law's awake. Own work of this seat; no condition. -/
import Derived.Test.YthlllmnlcjkiiaaCho5
namespace Go.Proofs.Ythlllmnlcjkiiaa.Cho
open Go.RowKit Go.Proofs.Ythlllmnlcjkiiaa.Kit Go.Proofs.Ythlllmnlcjkiiaa.Flo
set_option linter.unusedVariables false
set_option linter.unusedSimpArgs false
attribute [local go_sem] store_flt

theorem i0int : ∃ i, Try.prog.info? 3 = some i ∧ i.zero = some (.int .i64 0) ∧ i.size = 1 ∧ i.bytes = 8 := by
  obtain ⟨i, hi, hp⟩ := Option.map_eq_some_iff.1 (by kernel_rfl : (Try.prog.info? 3).map (fun i => (i.zero, i.size, i.bytes)) = some (some (.int .i64 0), 1, 8))
  simp only [Prod.mk.injEq] at hp
  exact ⟨i, hi, hp⟩
theorem run_app_int {w : World} {A : Option Addr} {n c b : Nat} {l : List Value} {r : Int} (h : FSeg w 3 1 A n c l) (k : Blk w b 3 [.int .i64 r]) (hb : n + 1 ≤ 1000000) :
    ∃ A' c' w', (Builtin.append_ #[32, 32] 32 #[.slice A n c, .slice (some ⟨b, 0, none⟩) 1 1]).run Try.prog w = .ok (.slice A' (n + 1) c') w' ∧ FSeg w' 3 1 A' (n + 1) c' (l ++ [.int .i64 r]) ∧ Step (fun k => blockOf A = some k) w w' ∧ (blockOf A' = blockOf A ∨ ∃ k, blockOf A' = some k ∧ w.heap.size ≤ k) := by
  obtain ⟨i0, hi0, hz0, hs0, hy0⟩ := i0int
  exact run_append_flat (P := Try.prog) (cB := 1) w 32 32 3 i0 _ 1 8 Try.underlying32 hi0 hz0 rfl hs0 hy0 (by omega) h (m := 1) (r := [.int .i64 r]) (aB := ⟨b, 0, none⟩) rfl (fun _ => Nat.one_pos) (fun v hv => by rw [List.mem_singleton.1 hv]; rfl) (fun j v hj => by rw [addr_add', Nat.zero_add]; exact k.cell hj) hb
/-- 0, 1, .. below n. -/
def ups (n : Nat) : List Value := (List.range n).map fun i : Nat => Value.int .i64 (i : Int)
theorem ups_succ (n : Nat) : ups (n + 1) = ups n ++ [.int .i64 (n : Int)] := by simp [ups, List.range_succ]
set_option maxRecDepth 100000 in
set_option maxHeartbeats 2000000 in
theorem rank_calls {w : World} {A : Option Addr} {c : Nat} {l : List Cand} (h : CSeg w A 2 c l) (HG : ∀ x ∈ l, ∀ w', Calls Try.prog 11 #[encC x] w' fun e w'' => e = .returned (.float .f64 0) ∧ Step (fun _ => False) w' w'') :
    Calls Try.prog 7 #[.slice A 2 c] w fun e w' => ∃ D cD, e = .returned (.slice D 2 cD) ∧ Step (fun _ => False) w w' := by
  have hn := h.len
  have HS := scoresL_calls h (by omega) (f := fun _ => 0) HG
  have hx : l.map (fun _ => 0) = [0, 0] := by
    obtain ⟨a, b, rfl⟩ : ∃ a b, l = [a, b] := by
      match l, hn with
      | [a, b], _ => exact ⟨a, b, rfl⟩
    rfl
  rw [hx] at HS
  clear h HG hx hn
  go_enter Try.func7, Try.ntmps7
  go_upto_region 2 with (go_at_call 9; refine HS.mono ?_; rintro e w1 ⟨B, cB, rfl, hB, hBf, hs1⟩)
  refine alloc_next (cs := [.slice B 2 cB]) ?_
  intro w2 hV hs2
  have hs12 := hs1.same hs2
  have hB2 := hB.keep hs2 (fun _ _ h => h)
  obtain ⟨v, hv⟩ : ∃ v, w1.heap.size = v := ⟨_, rfl⟩
  rw [hv] at hV ⊢
  have HV := Lib.hid hV
  have HB := Lib.hid hB2
  have HST := Lib.hid hs12
  clear hs1 hs2 hB hB2 hBf hV hv hs12 HS
  go_wp2
  go_loopw [4, 10] (fun v4 v10 wr => ∃ (i : Nat) (D : Option Addr) (cD : Nat), v10 = .int .i64 (i : Int) ∧ v4 = .slice D i cD ∧ i ≤ 2 ∧ FSeg wr 3 1 D i cD (ups i) ∧ (∀ k, blockOf D = some k → w2.heap.size ≤ k) ∧ Step (fun _ => False) w2 wr) (fun _ v _ => 2 - (intOf v).toNat)
  case atStart => exact ⟨0, none, 0, rfl, rfl, Nat.zero_le _, fseg_nil _ _ _, fun k hk => (by cases hk), Step.refl _ _⟩
  case round =>
    obtain ⟨i, D, cD, rfl, rfl, hi, hD, hDf, hst⟩ := hrel
    by_cases hin : i < 2
    · have hin' : ((i : Int) < 2) := by omega
      have hal : Step (fun _ => False) wr (wr.alloc (.cells #[.int .i64 (i : Int)] 3)) := (Step.refl _ _).alloc _
      obtain ⟨D5, c5, w5, hap, hD5, hs5, hn5⟩ := run_app_int (hD.keep hal (fun _ _ h => h)) (blk_new wr [.int .i64 (i : Int)] 3) (by omega)
      have hz1 := hal.size
      have hz := hst.size
      have hst5 : Step (fun _ => False) w2 w5 := (hst.same hal).trans hs5 (fun j hj h => by have := hDf j h; omega)
      have hD5f : ∀ k, blockOf D5 = some k → w2.heap.size ≤ k := fun k hk => by
        rcases hn5 with e | ⟨j, e, hj⟩
        · exact hDf k (e ▸ hk)
        · rw [hk] at e
          obtain rfl := Option.some.inj e
          omega
      rw [← ups_succ] at hD5
      have HD5 := Lib.hid hD5
      have HST5 := Lib.hid hst5
      clear hD5 hst5 hs5 hn5 hal hst hD hDf
      go_wp2_with (at_builtin; refine wpList_app (by rfl) (.tmp 13) (.tmp 15) 32 (by rfl) (by rfl) (by rfl) hap ?_)
      go_roundw
      case rel => exact ⟨i + 1, D5, c5, by go_num, rfl, by omega, HD5.out, hD5f, HST5.out⟩
      case measure =>
        simp only [intOf]
        omega
    · have hin' : ¬ ((i : Int) < 2) := by omega
      obtain rfl : i = 2 := by omega
      obtain ⟨gD, rfl⟩ := hD.isSome (by omega)
      have HSO := sortst_calls (g := gD) hD (HV.out.keep hst (fun h => h)) (HB.out.keep hst (fun _ _ h => h)) (x := 0) (y := 0) rfl rfl (by decide)
      clear hD
      go_wp2_with (go_at_call 12; refine HSO.mono ?_; rintro e w6 ⟨rfl, hs6⟩)
      go_ret
      exact ⟨_, _, rfl, (HST.out.same hst).same hs6⟩
def ca : Cand := ⟨⟨#[]⟩, 1, 1, 0⟩
def cb : Cand := ⟨⟨#[]⟩, 3, 2, 0⟩
theorem even_a : evenW ca = 4611686018427387904 := by decide
theorem even_b : evenW cb = 4607182418800017408 := by decide
theorem least_ab {v : Int} (h : LeastOf ([ca, cb].map evenW) v) : v = 1 := by
  rw [List.map_cons, List.map_cons, List.map_nil, even_a, even_b] at h
  rcases h with ⟨h, _⟩ | ⟨j, x, rfl, hx, hall⟩
  · cases h
  · match j, hx with
    | 0, hx =>
      obtain rfl : 4611686018427387904 = x := by simpa using hx
      have := (hall 1 4607182418800017408 rfl).1
      revert this
      decide
    | 1, _ => rfl
    | j + 2, hx => simp at hx
theorem least_nil {v : Int} (h : LeastOf (([] : List Cand).map evenW) v) : v = -1 := by
  rcases h with ⟨_, h⟩ | ⟨j, x, rfl, hx, hall⟩
  · exact h
  · simp at hx
set_option maxRecDepth 100000 in
set_option maxHeartbeats 2000000 in
theorem awake_calls (w : World) : Calls Try.prog 4 #[] w fun e w' => e = .returned (.bool true) ∧ Step (fun _ => False) w w' := by
  have HSEG := Lib.hid (fun w' (hb : Blk w' w.heap.size 29 (cncs [ca, cb])) => (⟨by rw [cncs_length]; rfl, .inr ⟨w.heap.size, _, rfl, hb, Nat.le_refl _, by decide, fun j v hj => by simpa using hj⟩⟩ : CSeg w' (some ⟨w.heap.size, 0, none⟩) 2 2 [ca, cb]))
  have HOK : ∀ x ∈ [ca, cb], CandOk x := fun x hx => by
    simp only [List.mem_cons, List.not_mem_nil, or_false] at hx
    rcases hx with rfl | rfl <;> (unfold CandOk; decide)
  have HL0 : ∀ x ∈ [ca, cb], ∀ w', Calls Try.prog 11 #[encC x] w' fun e w'' => e = .returned (.float .f64 0) ∧ Step (fun _ => False) w' w'' := fun x hx w' => by
    simp only [List.mem_cons, List.not_mem_nil, or_false] at hx
    rcases hx with rfl | rfl
    · exact load_zero (b := 1) (k := 1) (by omega) (by omega) (by omega) (by decide) (by decide) _ w'
    · exact load_zero (b := 2) (k := 3) (by omega) (by omega) (by omega) (by decide) (by decide) _ w'
  have HLE := Lib.hid (fun w' (hb : Blk w' w.heap.size 29 (cncs [ca, cb])) => cleast_calls (HSEG.out w' hb) (by omega) HOK)
  have HLN := Lib.hid (fun w' => cleast_calls (w := w') (A := none) (c := 0) (l := []) (fseg_nil _ _ _) (by omega) (fun x hx => by cases hx))
  have HRA := Lib.hid (fun w' (hb : Blk w' w.heap.size 29 (cncs [ca, cb])) => rank_calls (HSEG.out w' hb) HL0)
  clear HSEG HOK HL0
  go_enter Try.func4, Try.ntmps4
  go_upto_region 2 with (fail)
  refine alloc_next (cs := cncs [ca, cb]) ?_
  intro w1 hB hs1
  obtain ⟨b, hb⟩ : ∃ b, w.heap.size = b := ⟨_, rfl⟩
  rw [hb] at HLE HRA hB ⊢
  have HB := Lib.hid hB
  have HS := Lib.hid hs1
  clear hB hs1 hb
  go_wp2_with (first | (go_at_call_of 6 (Value.slice (some ⟨b, 0, none⟩) 2 2); refine (HLE.out _ HB.out).mono ?_; rintro e w2 ⟨v2, rfl, hv2, hs2⟩; obtain rfl := least_ab hv2) | (go_at_call_of 6 (Value.slice none 0 0); refine (HLN.out _).mono ?_; rintro e w3 ⟨v3, rfl, hv3, hs3⟩; obtain rfl := least_nil hv3) | (go_at_call 7; refine (HRA.out _ ((HB.out.keep hs2 (fun h => h)).keep hs3 (fun h => h))).mono ?_; rintro e w4 ⟨D, cD, rfl, hs4⟩))
  go_ret
  exact ⟨rfl, ((HS.out.same hs2).same hs3).same hs4⟩
end Go.Proofs.Ythlllmnlcjkiiaa.Cho
