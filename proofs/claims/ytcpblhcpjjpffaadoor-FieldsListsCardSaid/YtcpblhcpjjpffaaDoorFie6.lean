/- fields: Grow, Concat, Add. Own work of this seat; no condition but on lengths. -/
import Derived.Test.YtcpblhcpjjpffaaDoorFie5
import Derived.Lib.AppendZeros
import Derived.Deep.CutRange
import Derived.Deep.CutBlock
namespace Go.Proofs.YtcpblhcpjjpffaaDoor.Fie
open Go.RowKit Go.Proofs.YtcpblhcpjjpffaaDoor.Kit Go.Proofs.YtcpblhcpjjpffaaDoor.Oct Go.Proofs.YtcpblhcpjjpffaaDoor.Cut
set_option linter.unusedVariables false
set_option linter.unusedSimpArgs false

set_option maxRecDepth 100000 in
theorem grow_calls (n : Nat) (hn : n ≤ 1000000) (w : World) :
    Calls Tryd.prog 87 #[.slice none 0 0, .int .i64 n] w fun e w' => ∃ A c, e = .returned (.slice A 0 c) ∧ FW w' 25 A 0 c [] ∧ Step (fun _ => False) w w' ∧ (∀ k, blockOf A = some k → w.heap.size ≤ k) := by
  have h0 : ¬ ((n : Int) < 0) := by omega
  by_cases hz : n = 0
  · subst hz
    go_enter Tryd.func87, Tryd.ntmps87
    go_wp2
    go_ret
    exact ⟨none, 0, rfl, fseg_nil _ _ _, Step.refl _ _, fun k hk => by cases hk⟩
  · have h1 : (0 : Int) < (n : Int) := by omega
    obtain ⟨i0, hi0, hz0, hs0, hy0⟩ := i0fd
    have hap := Lib.run_append_nil_zeros (P := Tryd.prog) w 38 3 38 25 i0 _ .i64 .i64 Tryd.underlying38 Tryd.underlying3 hi0 hz0 n (by omega) (by omega) (by omega) (by rw [hy0]; omega)
    have hcap := grownCap_ge w n 0 25
    generalize hcc : grownCap w n 0 25 = c at *
    have hF : FW (w.drew.alloc (.cells (Builtin.zeroCells (Value.agg #[.string ⟨#[]⟩, .string ⟨#[]⟩]).cells n ++ Builtin.zeroCells (Value.agg #[.string ⟨#[]⟩, .string ⟨#[]⟩]).cells (c - n)) 25)) 25 (some ⟨w.heap.size, 0, none⟩) 0 c [] := by
      refine ⟨rfl, .inr ⟨w.heap.size, _, rfl, heap_alloc_new w.drew _, Nat.zero_le _, ?_, fun j v hj => by simp [fdcs] at hj⟩⟩
      rw [Array.size_append, size_zeroCells, size_zeroCells]
      have : (Value.agg #[.string ⟨#[]⟩, .string ⟨#[]⟩]).cells.size = 2 := rfl
      rw [this]
      omega
    have hst : Step (fun _ => False) w (w.drew.alloc (.cells (Builtin.zeroCells (Value.agg #[.string ⟨#[]⟩, .string ⟨#[]⟩]).cells n ++ Builtin.zeroCells (Value.agg #[.string ⟨#[]⟩, .string ⟨#[]⟩]).cells (c - n)) 25)) := ((Step.refl _ w).drew).alloc _
    generalize (w.drew.alloc (.cells (Builtin.zeroCells (Value.agg #[.string ⟨#[]⟩, .string ⟨#[]⟩]).cells n ++ Builtin.zeroCells (Value.agg #[.string ⟨#[]⟩, .string ⟨#[]⟩]).cells (c - n)) 25)) = w2 at *
    clear hcc hi0 hz0 hs0 hy0
    go_enter Tryd.func87, Tryd.ntmps87
    go_wp2_with (refine Lib.wpList_append_run _ (by rfl) (.tmp 20) (.tmp 21) 38 3 (by rfl) _ _ (by rfl) (by rfl) _ _ hap ?_)
    go_ret
    exact ⟨_, c, rfl, hF, hst, fun k hk => by have : w.heap.size = k := Option.some.inj hk; omega⟩
/-- append(s, x) with the one in a new block. -/
theorem app_fd_one {w1 : World} {B : Option Addr} {m cB : Nat} {l : List Fd} (hB : FW w1 25 B m cB l) (hb : m + 1 ≤ 1000000) (x : Fd) :
    ∃ B' c' w', (Builtin.append_ #[38, 38] 38 #[.slice B m cB, .slice (some ⟨w1.heap.size, 0, none⟩) 1 1]).run Tryd.prog (w1.alloc (.cells #[.string x.nm, .string x.vl] 25)) = .ok (.slice B' (m + 1) c') w' ∧ FW w' 25 B' (m + 1) c' (l ++ [x]) ∧ (∀ k, blockOf B' = some k → blockOf B = some k ∨ w1.heap.size ≤ k) ∧ Step (fun k => blockOf B = some k) w1 w' := by
  obtain ⟨i0, hi0, hz0, hs0, hy0⟩ := i0fd
  have hal : Step (fun _ => False) w1 (w1.alloc (.cells #[.string x.nm, .string x.vl] 25)) := (Step.refl _ _).alloc _
  obtain ⟨B5, c5, w5, hap, hB6, hs5, hn5⟩ := run_app_one (k := 2) (v := fdc x) 38 25 Tryd.underlying38 hi0 hz0 rfl hs0 hy0 (by omega) (hB.keep hal (fun _ _ h => h)) rfl (fdc_cell x) (blk_new w1 (fdc x) 25) hb
  have hz6 := hal.size
  refine ⟨B5, c5, w5, hap, by unfold FW; rw [fdcs_append, fdcs_one]; exact hB6, fun k hk => ?_, (hal.mono (fun _ _ h => h.elim)).same hs5⟩
  rcases hn5 with e | ⟨j, e, hj⟩
  · exact .inl (e ▸ hk)
  · rw [hk] at e
    obtain rfl := Option.some.inj e
    exact .inr (by omega)
set_option maxRecDepth 100000 in
theorem add_calls {w : World} {A : Option Addr} {n c : Nat} {l : List Fd} (h : FRd w A n l) (hn : n + 1 ≤ 1000000) (s v : ByteArray) :
    Calls Tryd.prog 38 #[.slice A n c, .string s, .string v] w fun e w' => ∃ A' c', e = .returned (.slice A' (n + 1) c') ∧ FW w' 25 A' (n + 1) c' (l ++ [⟨s, v⟩]) ∧ Step (fun _ => False) w w' ∧ (∀ k, blockOf A' = some k → w.heap.size ≤ k) := by
  have HC := Lib.hid (clone_calls (c := c) h (by omega))
  clear h
  go_enter Tryd.func38, Tryd.ntmps38
  go_wp2_with (first | (go_at_call 53; refine HC.out.mono ?_; rintro e w2 ⟨A2, c2, rfl, hF2, hs2, hf2, _⟩; obtain ⟨B', c', w3, hap, hF3, hf3, hs3⟩ := app_fd_one hF2 hn ⟨s, v⟩) | (at_builtin; refine wpList_app1 (by rfl) (.tmp 8) (.tmp 12) 38 (by rfl) (by rfl) (by rfl) hap ?_))
  go_ret
  have hz := hs2.size
  exact ⟨B', c', rfl, hF3, hs2.trans hs3 (fun j hj h => by have := hf2 _ h; omega), fun k hk => (hf3 k hk).elim (hf2 k) (fun h => by omega)⟩
theorem FW.own {w : World} {T : TypeId} {A : Option Addr} {n c : Nat} {l : List Fd} (h : FW w T A n c l) (hA : A ≠ none) : ∃ g, A = some ⟨g, 0, none⟩ := by
  obtain ⟨_, ⟨rfl, _⟩ | ⟨g, cur, rfl, _⟩⟩ := h
  · exact absurd rfl hA
  · exact ⟨g, rfl⟩
set_option maxRecDepth 100000 in
set_option maxHeartbeats 1000000 in
/-- Concat of two rows, the first one with a field at least. -/
theorem concat_calls {w : World} {G gA gB n c m cB : Nat} {l r : List Fd} (hG : Blk w G 38 [.slice (some ⟨gA, 0, none⟩) n c, .slice (some ⟨gB, 0, none⟩) m cB]) (hA : FW w 25 (some ⟨gA, 0, none⟩) n c l) (hB : FW w 25 (some ⟨gB, 0, none⟩) m cB r) (h1 : 1 ≤ n) (hb : n + m ≤ 1000000) :
    Calls Tryd.prog 68 #[.slice (some ⟨G, 0, none⟩) 2 2] w fun e w' => ∃ A' c', e = .returned (.slice A' (n + m) c') ∧ FW w' 25 A' (n + m) c' (l ++ r) ∧ Step (fun _ => False) w w' ∧ (∀ k, blockOf A' = some k → w.heap.size ≤ k) := by
  have g0 := hG.cell (i := 0) rfl
  have g1 := hG.cell (i := 1) rfl
  have HG := Lib.hid hG
  have HA := Lib.hid hA
  have HB := Lib.hid hB
  have hGl := hG.lt
  have hAl : gA < w.heap.size := FSeg.lt hA rfl
  have hBl : gB < w.heap.size := FSeg.lt hB rfl
  have hgr0 := fun w' => grow_calls (n + m) hb w'
  simp only [Int.natCast_add] at hgr0
  have HGR := Lib.hid hgr0
  clear hgr0
  clear hG hA hB
  go_enter Tryd.func68, Tryd.ntmps68
  go_upto_block 0 with fail
  go_cut [3, 5, 11] from 12 to 22 (fun s3 s5 s11 wx => s3 = .int .i64 ((n : Int) + (m : Int)) ∧ wx = w)
  case first =>
    go_wp2_with fail
    go_loopw [3, 5, 11] (fun v3 v5 v11 wr => (v11 = .int .i64 0 ∧ v3 = .int .i64 0 ∨ v11 = .int .i64 1 ∧ v3 = .int .i64 (n : Int) ∨ v11 = .int .i64 2 ∧ v3 = .int .i64 ((n : Int) + (m : Int))) ∧ wr = w) (fun _ _ v _ => 2 - (intOf v).toNat)
    case atStart => exact ⟨.inl ⟨rfl, rfl⟩, rfl⟩
    case round =>
      obtain ⟨h, rfl⟩ := hrel
      rcases h with ⟨rfl, rfl⟩ | ⟨rfl, rfl⟩ | ⟨rfl, rfl⟩
      · have hw : IntKind.i64.wrap (n : Int) = n := by rw [IntKind.wrap_i64]; omega
        have hn0 : ¬ ((n : Int) < 0) := by omega
        go_wp2
        go_roundw
        case rel => exact ⟨.inr (.inl ⟨by go_num, by go_num⟩), by first | rfl | trivial⟩
        case measure => simp [intOf]
      · have hw : IntKind.i64.wrap ((n : Int) + (m : Int)) = (n : Int) + (m : Int) := by rw [IntKind.wrap_i64]; omega
        have hn0 : ¬ ((n : Int) + (m : Int) < 0) := by omega
        go_wp2
        go_roundw
        case rel => exact ⟨.inr (.inr ⟨by go_num, by go_num⟩), by first | rfl | trivial⟩
        case measure => simp [intOf]
      · go_wp2
        go_meet
        exact ⟨rfl, rfl⟩
  case rest =>
    obtain ⟨rfl, rfl⟩ := hcut
    go_wp2_with (go_at_call 87; refine (HGR.out _).mono ?_; rintro e w2 ⟨C0, c0, rfl, hF0, hs0, hf0⟩)
    have HF0 := Lib.hid hF0
    have HS0 := Lib.hid hs0
    have HFR := Lib.hid hf0
    clear hF0 hs0 hf0 g0 g1
    go_loopw [6, 27] (fun v6 v27 wr => Step (fun _ => False) wc wr ∧ ((∃ C c', v27 = .int .i64 0 ∧ v6 = .slice C 0 c' ∧ FW wr 25 C 0 c' [] ∧ ∀ k, blockOf C = some k → wc.heap.size ≤ k) ∨ (∃ C c', v27 = .int .i64 1 ∧ v6 = .slice C n c' ∧ FW wr 25 C n c' l ∧ ∀ k, blockOf C = some k → wc.heap.size ≤ k) ∨ (∃ C c', v27 = .int .i64 2 ∧ v6 = .slice C (n + m) c' ∧ FW wr 25 C (n + m) c' (l ++ r) ∧ ∀ k, blockOf C = some k → wc.heap.size ≤ k))) (fun _ v _ => 2 - (intOf v).toNat)
    case atStart => exact ⟨HS0.out, .inl ⟨C0, c0, rfl, rfl, HF0.out, HFR.out⟩⟩
    case round =>
      obtain ⟨hst, h⟩ := hrel
      have hG := HG.out.keep hst (fun h => h)
      have hA := HA.out.keep hst (fun _ _ h => h)
      have hB := HB.out.keep hst (fun _ _ h => h)
      have g0 := hG.cell (i := 0) rfl
      have g1 := hG.cell (i := 1) rfl
      rcases h with ⟨C, c', rfl, rfl, hC, hf⟩ | ⟨C, c', rfl, rfl, hC, hf⟩ | ⟨C, c', rfl, rfl, hC, hf⟩
      · obtain ⟨A', c2, w3, hap, hF3, hs3, hf3⟩ := app_fds (cB := c) hC hA.rd (fun _ => by omega) (by omega)
        have hzs := hst.size
        have HX := Lib.hid (And.intro hF3 (And.intro hs3 hf3))
        have HFC := Lib.hid hf
        rw [Nat.zero_add] at hap HX
        clear hG hA hB hC hF3 hs3 hf3 hf
        go_wp2_with (at_builtin; refine wpList_app1 (by rfl) (.tmp 31) (.tmp 32) 38 (by rfl) (by rfl) (by rfl) hap ?_)
        go_roundw
        case rel =>
          obtain ⟨hF3, hs3, hf3⟩ := HX.out
          have hf := HFC.out
          exact ⟨hst.trans hs3 (fun j hj h => by have := hf _ h; omega), .inr (.inl ⟨A', c2, by go_num, rfl, by simpa using hF3, fun k hk => by
            rcases hf3 with e | ⟨j, e, hj⟩
            · exact hf k (e ▸ hk)
            · rw [hk] at e; cases e; omega⟩)⟩
        case measure => simp [intOf]
      · obtain ⟨A', c2, w3, hap, hF3, hs3, hf3⟩ := app_fds (cB := cB) hC hB.rd (fun e => by subst e; have h1' := FSeg.isSome hC (by omega); obtain ⟨_, h1'⟩ := h1'; cases h1') hb
        have hzs := hst.size
        have HX := Lib.hid (And.intro hF3 (And.intro hs3 hf3))
        have HFC := Lib.hid hf
        clear hG hA hB hC hF3 hs3 hf3 hf
        go_wp2_with (at_builtin; refine wpList_app1 (by rfl) (.tmp 31) (.tmp 32) 38 (by rfl) (by rfl) (by rfl) hap ?_)
        go_roundw
        case rel =>
          obtain ⟨hF3, hs3, hf3⟩ := HX.out
          have hf := HFC.out
          exact ⟨hst.trans hs3 (fun j hj h => by have := hf _ h; omega), .inr (.inr ⟨A', c2, by go_num, rfl, hF3, fun k hk => by
            rcases hf3 with e | ⟨j, e, hj⟩
            · exact hf k (e ▸ hk)
            · rw [hk] at e; cases e; omega⟩)⟩
        case measure => simp [intOf]
      · clear hG hA hB g0 g1
        go_wp2
        go_ret
        exact ⟨C, c', rfl, hC, hst, hf⟩
end Go.Proofs.YtcpblhcpjjpffaaDoor.Fie
