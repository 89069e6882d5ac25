/- choice: Rank of two whose loads are zero. Own work of this seat; no condition. -/
import Derived.Test.YthlllmnlcjkiiaaCho4
namespace Go.Proofs.Ythlllmnlcjkiiaa.Cho
open Go.RowKit Go.Proofs.Ythlllmnlcjkiiaa.Kit Go.Proofs.Ythlllmnlcjkiiaa.Flo
set_option linter.unusedVariables false
set_option linter.unusedSimpArgs false
attribute [local go_sem] store_flt

/-- Rank's function. -/
theorem rank1_calls {w : World} {v n : Nat} {B : Option Addr} {cB : Nat} {xs : List Nat} (hv : Blk w v 36 [.slice B n cB]) (hB : FSeg w 27 1 B n cB (flts xs)) {a b x y : Nat} (ha : xs[a]? = some x) (hb : xs[b]? = some y) :
    Calls Try.prog 13 #[.int .i64 (a : Int), .int .i64 (b : Int), .pointer (some ⟨v, 0, none⟩)] w fun e w' => e = .returned (.int .i64 (cmpF x y)) ∧ ∃ m, w' = w.drewN m := by
  have hn : xs.length = n := by have := hB.1; unfold flts at this; rw [List.length_map] at this; omega
  have hla := (List.getElem?_eq_some_iff.1 ha).1
  have hlb := (List.getElem?_eq_some_iff.1 hb).1
  obtain ⟨g, rfl⟩ := hB.isSome (by omega)
  have c0 := hv.cell (i := 0) rfl
  have ca : w.cell? ⟨g, a, none⟩ = some (.float .f64 x) := hB.cell (by unfold flts; rw [List.getElem?_map, ha]; rfl)
  have cb : w.cell? ⟨g, b, none⟩ = some (.float .f64 y) := hB.cell (by unfold flts; rw [List.getElem?_map, hb]; rfl)
  have ha' : ((a : Int) < (n : Int)) := by omega
  have hb' : ((b : Int) < (n : Int)) := by omega
  have HC := cmp_calls x y
  generalize cmpF x y = r at *
  clear hv hB ha hb hla hlb hn
  go_enter Try.func13, Try.ntmps13
  go_upto_region 1 with (fail)
  go_quiet (first | (go_at_call 14; exact Calls.quiet_of_same ((HC _).mono fun e w' h => ⟨h.1, h.2.symm⟩)))
  go_wp2
  go_ret
  exact ⟨rfl, _, rfl⟩
/-- Two whole numbers of which none goes ahead stay as they are. -/
theorem ins_calls {w : World} {g v cD n : Nat} {B : Option Addr} {cB : Nat} {xs : List Nat} (hD : FSeg w 3 1 (some ⟨g, 0, none⟩) 2 cD [.int .i64 0, .int .i64 1]) (hv : Blk w v 36 [.slice B n cB]) (hB : FSeg w 27 1 B n cB (flts xs)) {x y : Nat} (h0 : xs[0]? = some x) (h1 : xs[1]? = some y) (hxy : ¬ cmpF y x < 0) :
    Calls Try.prog 20 #[.slice (some ⟨g, 0, none⟩) 2 cD, .int .i64 0, .int .i64 2, .func (.func 13) #[] #[.pointer (some ⟨v, 0, none⟩)]] w fun e w' => e = .returned (.tuple #[]) ∧ Step (fun _ => False) w w' := by
  have HR := Lib.hid (fun w' (hs : Step (fun _ => False) w w') => (rank1_calls (hv.keep hs (fun h => h)) (hB.keep hs (fun _ _ h => h)) (a := 1) (b := 0) h1 h0 : Calls Try.prog 13 #[.int .i64 1, .int .i64 0, .pointer (some ⟨v, 0, none⟩)] w' fun e w'' => e = .returned (.int .i64 (cmpF y x)) ∧ ∃ m, w'' = w'.drewN m))
  have HD := Lib.hid (fun w' (hs : Step (fun _ => False) w w') => (⟨(hD.keep hs (fun _ _ h => h)).cell (j := 0) rfl, (hD.keep hs (fun _ _ h => h)).cell (j := 1) rfl⟩ : w'.cell? ⟨g, 0, none⟩ = some (.int .i64 0) ∧ w'.cell? ⟨g, 1, none⟩ = some (.int .i64 1)))
  have q1 : (cmpF y x < 0) = False := eq_false hxy
  generalize cmpF y x = r at *
  clear hD hv hB h0 h1 hxy
  go_enter Try.func20, Try.ntmps20
  go_wp2
  go_loopw [8] (fun v8 wr => (v8 = .int .i64 1 ∨ v8 = .int .i64 2) ∧ Step (fun _ => False) w wr) (fun v _ => 3 - (intOf v).toNat)
  case atStart => exact ⟨.inl rfl, Step.refl _ _⟩
  case round =>
    obtain ⟨h8, hst⟩ := hrel
    rcases h8 with rfl | rfl
    · go_upto_region 3 with (fail)
      go_wp2
      go_loopw [9] (fun v9 wi => v9 = .int .i64 1 ∧ Step (fun _ => False) w wi) (fun _ _ => 1)
      case atStart => exact ⟨rfl, hst⟩
      case round =>
        clear hst
        obtain ⟨rfl, hst⟩ := hrel
        obtain ⟨d0, d1⟩ := HD.out _ hst
        go_upto_region 4 with (fail)
        go_quiet (first | (go_at_call 13; exact Calls.quiet_of (HR.out _ (hst.drewN _))))
        have hst2 := hst.drewN nq
        generalize wr.drewN nq = wq at *
        go_wp2
        exact ⟨⟨.inr rfl, hst2⟩, by decide⟩
    · go_wp2
      go_end0
      exact ⟨rfl, hst⟩
theorem stable_calls {w : World} {g v cD n : Nat} {B : Option Addr} {cB : Nat} {xs : List Nat} (hD : FSeg w 3 1 (some ⟨g, 0, none⟩) 2 cD [.int .i64 0, .int .i64 1]) (hv : Blk w v 36 [.slice B n cB]) (hB : FSeg w 27 1 B n cB (flts xs)) {x y : Nat} (h0 : xs[0]? = some x) (h1 : xs[1]? = some y) (hxy : ¬ cmpF y x < 0) :
    Calls Try.prog 16 #[.slice (some ⟨g, 0, none⟩) 2 cD, .int .i64 2, .func (.func 13) #[] #[.pointer (some ⟨v, 0, none⟩)]] w fun e w' => e = .returned (.tuple #[]) ∧ Step (fun _ => False) w w' := by
  have HI := ins_calls hD hv hB h0 h1 hxy
  clear hD hv hB h0 h1 hxy
  go_enter Try.func16, Try.ntmps16
  go_wp2
  go_loopw [7, 8] (fun v7 v8 wr => v7 = .int .i64 0 ∧ v8 = .int .i64 20 ∧ w = wr) (fun _ _ _ => 1)
  case atStart => exact ⟨rfl, rfl, rfl⟩
  case round =>
    obtain ⟨rfl, rfl, rfl⟩ := hrel
    go_wp2_with (go_at_call 20; refine HI.mono ?_; rintro e w1 ⟨rfl, hs1⟩)
    go_loopw [6] (fun v6 wr => v6 = .int .i64 20 ∧ Step (fun _ => False) w wr) (fun _ _ => 1)
    case atStart => exact ⟨rfl, hs1⟩
    case round =>
      obtain ⟨rfl, hst⟩ := hrel
      go_wp2
      go_end0
      exact ⟨rfl, hst⟩
theorem sortst_calls {w : World} {g v cD n : Nat} {B : Option Addr} {cB : Nat} {xs : List Nat} (hD : FSeg w 3 1 (some ⟨g, 0, none⟩) 2 cD [.int .i64 0, .int .i64 1]) (hv : Blk w v 36 [.slice B n cB]) (hB : FSeg w 27 1 B n cB (flts xs)) {x y : Nat} (h0 : xs[0]? = some x) (h1 : xs[1]? = some y) (hxy : ¬ cmpF y x < 0) :
    Calls Try.prog 12 #[.slice (some ⟨g, 0, none⟩) 2 cD, .func (.func 13) #[] #[.pointer (some ⟨v, 0, none⟩)]] w fun e w' => e = .returned (.tuple #[]) ∧ Step (fun _ => False) w w' := by
  have HI := stable_calls hD hv hB h0 h1 hxy
  clear hD hv hB h0 h1 hxy
  go_enter Try.func12, Try.ntmps12
  go_wp2_with (go_at_call 16; refine HI.mono ?_; rintro e w1 ⟨rfl, hs1⟩)
  go_end0
  exact ⟨rfl, hs1⟩
end Go.Proofs.Ythlllmnlcjkiiaa.Cho
