/- strconv.FormatFloat at zero; score.Text at the negative zero. Own work of this seat; no condition. -/
import Derived.Test.YthlllmnlcjkiiaaDoorSco1
import Derived.Laws.MakeOwn
import Derived.Laws.BytesArg
import Derived.Laws.IdiomStrings
namespace Go.Proofs.YthlllmnlcjkiiaaDoor.Cho
open Go.RowKit Go.Proofs.YthlllmnlcjkiiaaDoor.Kit Go.Proofs.YthlllmnlcjkiiaaDoor.Flo
set_option linter.unusedVariables false
set_option linter.unusedSimpArgs false

theorem i0u8 : ∃ i, Tryd.prog.info? 5 = some i ∧ i.zero = some (.int .u8 0) ∧ i.size = 1 ∧ i.bytes = 1 := by
  obtain ⟨i, hi, hp⟩ := Option.map_eq_some_iff.1 (by kernel_rfl : (Tryd.prog.info? 5).map (fun i => (i.zero, i.size, i.bytes)) = some (some (.int .u8 0), 1, 1))
  simp only [Prod.mk.injEq] at hp
  exact ⟨i, hi, hp⟩
theorem make_bytes (w : World) (m : Nat) (hm : m ≤ 1000000) : ∃ w', (Instr.makeSlice 50 (.int .i64 0) (.int .i64 (m : Int))).run Tryd.prog w = .ok (.slice (some ⟨w.heap.size, 0, none⟩) 0 m) w' ∧ FSeg w' 5 1 (some ⟨w.heap.size, 0, none⟩) 0 m [] ∧ Step (fun _ => False) w w' := by
  obtain ⟨i, hi, hz, hs, hb⟩ := i0u8
  have hr := run_make (P := Tryd.prog) w 50 5 i (.int .u8 0) Tryd.underlying50 hi hz .i64 .i64 0 (m : Int) (by omega) (by omega) (by rw [hb]; omega) (by omega)
  simp only [Int.toNat_natCast, Int.toNat_zero, hs, Nat.mul_one] at hr
  exact ⟨_, hr, ⟨rfl, .inr ⟨w.heap.size, _, rfl, heap_alloc_new w _, Nat.zero_le _, by rw [size_madeCells]; omega, fun j v hj => by simp at hj⟩⟩, (Step.refl _ _).alloc _⟩
theorem run_app_u8 {w : World} {A : Option Addr} {n c b : Nat} {l : List Value} {r : Int} (h : FSeg w 5 1 A n c l) (k : Blk w b 5 [.int .u8 r]) (hb : n + 1 ≤ 1000000) :
    ∃ A' c' w', (Builtin.append_ #[50, 50] 50 #[.slice A n c, .slice (some ⟨b, 0, none⟩) 1 1]).run Tryd.prog w = .ok (.slice A' (n + 1) c') w' ∧ FSeg w' 5 1 A' (n + 1) c' (l ++ [.int .u8 r]) ∧ Step (fun k => blockOf A = some k) w w' ∧ (blockOf A' = blockOf A ∨ ∃ k, blockOf A' = some k ∧ w.heap.size ≤ k) := by
  obtain ⟨i0, hi0, hz0, hs0, hy0⟩ := i0u8
  exact run_append_flat (P := Tryd.prog) (cB := 1) w 50 50 5 i0 _ 1 1 Tryd.underlying50 hi0 hz0 rfl hs0 hy0 (by omega) h (m := 1) (r := [.int .u8 r]) (aB := ⟨b, 0, none⟩) rfl (fun _ => Nat.one_pos) (fun v hv => by rw [List.mem_singleton.1 hv]; rfl) (fun j v hj => by rw [addr_add', Nat.zero_add]; exact k.cell hj) hb
set_option maxRecDepth 100000 in
set_option maxHeartbeats 2000000 in
theorem efg_zero {w : World} {g c : Nat} (h : FSeg w 5 1 (some ⟨g, 0, none⟩) 0 c []) :
    Calls Tryd.prog 51 #[.slice (some ⟨g, 0, none⟩) 0 c, .bool false, .slice none 0 0, .int .i64 0, .int .i64 0, .int .i64 (-1), .int .u8 103, .bool true] w fun e w' => ∃ D cD, e = .returned (.slice D 1 cD) ∧ FSeg w' 5 1 D 1 cD [.int .u8 48] ∧ Step (fun k => k = g) w w' := by
  have hal : Step (fun _ => False) w (w.alloc (.cells #[.int .u8 48] 5)) := (Step.refl _ _).alloc _
  obtain ⟨D5, c5, w5, hap, hD5, hs5, hn5⟩ := run_app_u8 (r := 48) (h.keep hal (fun _ _ h => h)) (blk_new w [.int .u8 48] 5) (by omega)
  rw [List.nil_append] at hD5
  have hst : Step (fun k => k = g) w w5 := (hal.mono (fun _ _ h => h.elim)).same (hs5.mono (fun k _ e => (Option.some.inj e).symm))
  have HD := Lib.hid hD5
  have HS := Lib.hid hst
  clear hD5 hs5 hn5 hst hal h
  go_enter Tryd.func51, Tryd.ntmps51
  go_wp2_with (at_builtin; refine wpList_app (by rfl) (.tmp 209) (.tmp 210) 50 (by rfl) (by rfl) (by rfl) hap ?_)
  go_ret
  exact ⟨D5, c5, rfl, HD.out, HS.out⟩
theorem sbits_run (b : Nat) (w : World) : (callFunc 48 #[.float .f64 b]).run Tryd.prog w = .ok (.value (.int .u64 (b : Int))) w := by
  rw [run_callFunc_extern Tryd.func48 (by kernel_rfl) (by kernel_rfl) (by kernel_rfl) (show Extern.find _ = some Extern.MathFloatBits.float64bits by kernel_rfl)]
  rfl
set_option maxRecDepth 100000 in
set_option maxHeartbeats 2000000 in
theorem ftoa_zero {w : World} {g c : Nat} (h : FSeg w 5 1 (some ⟨g, 0, none⟩) 0 c []) :
    Calls Tryd.prog 46 #[.slice (some ⟨g, 0, none⟩) 0 c, .float .f64 0, .int .u8 103, .int .i64 (-1)] w fun e w' => ∃ D cD, e = .returned (.slice D 1 cD) ∧ FSeg w' 5 1 D 1 cD [.int .u8 48] ∧ Step (fun k => k = g) w w' := by
  have hb := fun w => sbits_run 0 w
  rw [show ((0 : Nat) : Int) = 0 from rfl] at hb
  have HE0 := fun m => efg_zero (FSeg.keep h ((Step.refl (fun _ => False) w).drewN m) (fun _ _ h => h))
  have HE := Lib.hid HE0
  clear h HE0
  go_enter Tryd.func46, Tryd.ntmps46
  go_upto_region 14 with (fail)
  go_quiet (fail)
  have HEN := Lib.hid (HE.out nq)
  have hdr : Step (fun k => k = g) w (w.drewN nq) := (Step.refl _ _).drewN nq
  generalize w.drewN nq = w1 at *
  clear HE
  go_wp2_with (go_at_call 51; refine HEN.out.mono ?_; rintro e w2 ⟨D, cD, rfl, hD, hs2⟩)
  go_ret
  exact ⟨D, cD, rfl, hD, hdr.same hs2⟩
set_option maxRecDepth 100000 in
set_option maxHeartbeats 2000000 in
theorem ifmt_zero (w : World) : Calls Tryd.prog 40 #[.float .f64 0, .int .u8 103, .int .i64 (-1), .int .i64 64] w fun e w' => e = .returned (.string ⟨#[48]⟩) ∧ Step (fun _ => False) w w' := by
  obtain ⟨w1, hmk, hB1, hs1⟩ := make_bytes w 24 (by omega)
  have HF := Lib.hid (ftoa_zero hB1)
  have HS1 := Lib.hid hs1
  rw [show ((24 : Nat) : Int) = 24 from rfl] at hmk
  clear hB1 hs1
  go_enter Tryd.func40, Tryd.ntmps40
  go_wp2_with (go_at_call 46; refine HF.out.mono ?_; rintro e w2 ⟨D, cD, rfl, hD, hs2⟩; obtain ⟨gD, rfl⟩ := hD.isSome (by omega); have hcv := run_convert_bytes_back (P := Tryd.prog) w2 50 9 5 ⟨gD, 0, none⟩ cD [48] Tryd.underlying50 Tryd.underlying5 Tryd.underlying9 (fun j hj => by have : j = 0 := (by simpa using hj); subst this; exact hD.cell rfl); have hcv' : (convert 50 9 (.slice (some ⟨gD, 0, none⟩) 1 cD)).run Tryd.prog w2 = .ok (.string ⟨#[48]⟩) w2 := hcv)
  go_ret
  exact ⟨rfl, HS1.out.trans hs2 (fun j hj e => by omega)⟩
theorem fmt_zero (w : World) : Calls Tryd.prog 34 #[.float .f64 0, .int .u8 103, .int .i64 (-1), .int .i64 64] w fun e w' => e = .returned (.string ⟨#[48]⟩) ∧ Step (fun _ => False) w w' := by
  have HI := fun w => ifmt_zero w
  go_enter Tryd.func34, Tryd.ntmps34
  go_wp2_with (go_at_call 40; refine (HI _).mono ?_; rintro e w2 ⟨rfl, hs2⟩)
  go_ret
  exact ⟨rfl, hs2⟩
/-- The negative zero's text. -/
theorem text_minus (w : World) : Calls Tryd.prog 18 #[.float .f64 9223372036854775808] w fun e w' => e = .returned (.string ⟨#[48]⟩) ∧ Step (fun _ => False) w w' := by
  have H1 := isnan_calls 9223372036854775808
  rw [show decide (Num 9223372036854775808) = true by decide] at H1
  have H2 : ∀ w, Calls Tryd.prog 22 #[.float .f64 9223372036854775808, .int .i64 1] w fun e w' => e = .returned (.bool false) ∧ w = w' := by
    intro w
    have hg : (FloatKind.f64.format.order 9223372036854775808 9218868437227405311 == some .gt) = false := by decide
    go_enter Tryd.func22, Tryd.ntmps22
    go_wp2
    go_ret
    exact ⟨rfl, rfl⟩
  have H3 : ∀ w, Calls Tryd.prog 22 #[.float .f64 9223372036854775808, .int .i64 (-1)] w fun e w' => e = .returned (.bool false) ∧ w = w' := by
    intro w
    have hn : ∀ w, (Op.unary .neg (.float .f64 9223372036854775808)).run Tryd.prog w = .ok (.float .f64 0) w := fun w => by kernel_rfl
    have hg : (FloatKind.f64.format.order 0 9218868437227405311 == some .gt) = false := by decide
    go_enter Tryd.func22, Tryd.ntmps22
    go_wp2
    go_ret
    exact ⟨rfl, rfl⟩
  have H23 : ∀ (s : Int), (decide (s = 1) || decide (s = -1)) = true → ∀ w, Calls Tryd.prog 22 #[.float .f64 9223372036854775808, .int .i64 s] w fun e w' => e = .returned (.bool false) ∧ w = w' := by
    intro s hs
    simp only [Bool.or_eq_true, decide_eq_true_eq] at hs
    rcases hs with rfl | rfl
    · exact H2
    · exact H3
  have HP := plain_calls 9223372036854775808
  rw [show plainF 9223372036854775808 = 0 by decide] at HP
  have HI := fun w => fmt_zero w
  clear H2 H3
  generalize 9223372036854775808 = mz at *
  go_enter Tryd.func18, Tryd.ntmps18
  go_wp2_with (first | (go_at_call 24; refine (H1 _).mono ?_; rintro e w1 ⟨rfl, rfl⟩) | (go_at_call 22; refine (H23 _ (by decide) _).mono ?_; rintro e w1 ⟨rfl, rfl⟩) | (go_at_call 27; refine (HP _).mono ?_; rintro e w1 ⟨rfl, rfl⟩) | (go_at_call 34; refine (HI _).mono ?_; rintro e w1 ⟨rfl, hs1⟩))
  go_ret
  exact ⟨rfl, hs1⟩
end Go.Proofs.YthlllmnlcjkiiaaDoor.Cho
