/- agenda: up and down of the library's heap, over the pile. Own work of this seat. -/
import Derived.Test.YtgohlbljdffelaaAgMInt
namespace Go.Proofs.Ytgohlbljdffelaa.AgInt
open Go.RowKit Go.Proofs.Ytgohlbljdffelaa.Kit Go.Proofs.Ytgohlbljdffelaa.Cmp Go.Proofs.Ytgohlbljdffelaa.HeapP
set_option linter.unusedVariables false
set_option linter.unusedSimpArgs false

theorem HM.cell0 {w : World} {a : Nat} {M : Value} {turn : Int} {A : Option Addr} {c : Nat} {xs : List It} (h : HM w a M turn A c xs) : w.cell? ⟨a, 0, none⟩ = some (.slice A xs.length c) := h.blk.cell (i := 0) rfl

theorem foot_perm {A : Option Addr} {xs ys : List It} (h : ys.Perm xs) (k : Nat) : foot A ys k ↔ foot A xs k := by
  unfold foot
  constructor
  · rintro (e | ⟨x, hx, e⟩)
    · exact .inl e
    · exact .inr ⟨x, h.mem_iff.1 hx, e⟩
  · rintro (e | ⟨x, hx, e⟩)
    · exact .inl e
    · exact .inr ⟨x, h.mem_iff.2 hx, e⟩

set_option maxRecDepth 100000 in
set_option maxHeartbeats 1000000 in
theorem up_calls {w : World} {a : Nat} {M : Value} {turn : Int} {A : Option Addr} {c : Nat} {xs : List It} (h : HM w a M turn A c xs) {j n : Nat} (hj : j < n) (hn : n ≤ xs.length) (hmax : xs.length ≤ 1000000) (hb : Bad1 le (lg xs) j n) (hk : KidsOk le (lg xs) j n) :
    Calls Try.prog 59 #[.iface 78 (.pointer (some ⟨a, 0, none⟩)), .int .i64 (j : Int)] w fun e w' => e = .returned (.tuple #[]) ∧ ∃ xs', HM w' a M turn A c xs' ∧ xs'.Perm xs ∧ HeapG le (lg xs') n ∧ (∀ k, n ≤ k → lg xs' k = lg xs k) ∧ Step (foot A xs) w w' := by
  go_enter Try.func59, Try.ntmps59
  go_wp2
  go_loopw [1] (fun v wr => ∃ (k : Nat) (ys : List It), v = .int .i64 (k : Int) ∧ k < n ∧ HM wr a M turn A c ys ∧ ys.Perm xs ∧ Bad1 le (lg ys) k n ∧ KidsOk le (lg ys) k n ∧ (∀ k, n ≤ k → lg ys k = lg xs k) ∧ Step (foot A xs) w wr) (fun v _ => (intOf v).toNat)
  case atStart => exact ⟨j, xs, rfl, hj, h, List.Perm.refl _, hb, hk, fun _ _ => rfl, Step.refl _ _⟩
  case round =>
    obtain ⟨k, ys, rfl, hkn, hys, hpm, hbk, hkk, hrest, hst⟩ := hrel
    have hl := hpm.length_eq
    rw [← hl] at hmax hn
    have hkl : k < ys.length := by omega
    have HL := Lib.hid hl
    have HR := Lib.hid hrest
    clear hl hrest
    by_cases hk0 : k = 0
    · subst hk0
      have hfin : HeapG le (lg ys) n := stop hbk hkk (fun h => absurd h (by omega))
      have HE := Lib.hid hfin
      clear hbk hkk hb hk hj hfin
      go_wp2
      go_end0
      exact ⟨rfl, ys, hys, hpm, HE.out, HR.out, hst⟩
    · obtain ⟨p, hp⟩ : ∃ p, par k = p := ⟨_, rfl⟩
      have hpk : p < k := by rw [← hp]; exact par_lt (by omega)
      have hp1 : ((k : Int) - 1) / 2 = (p : Int) := by rw [← hp]; unfold par; omega
      have hq1 : ((p : Int) == (k : Int)) = false := by simp; omega
      have hpl : p < ys.length := by omega
      have c0 := hys.cell0
      have hm1 := meth_less c0
      have n1 := fun w => nil_less a w
      have HLE := less_calls hys hkl hpl
      have HP := Lib.hid hp
      clear hp
      cases hlt : lt (lg ys k) (lg ys p) with
      | false =>
        rw [hlt] at HLE
        have hfin : HeapG le (lg ys) n := stop hbk hkk (fun h => by rw [HP.out]; exact hlt)
        have HE := Lib.hid hfin
        clear hbk hkk hb hk hj hfin hlt
        go_wp2_with (go_at_call 129; refine HLE.mono ?_; rintro e w1 ⟨rfl, hs1⟩)
        go_end0
        exact ⟨rfl, ys, hys.same hs1, hpm, HE.out, HR.out, hst.same (hs1.mono (fun _ _ h => h.elim))⟩
      | true =>
        rw [hlt] at HLE
        have hup := up_step le_tr (by omega) hkn hbk hkk (by rw [HP.out]; exact le_of_lt hlt)
        rw [HP.out, ← lg_sw hpl hkl] at hup
        have HE := Lib.hid hup
        have hrr : ∀ q, n ≤ q → lg (sw ys p k) q = lg xs q := fun q hq => by
          rw [lg_sw hpl hkl, swp_o _ (by omega) (by omega)]
          exact HR.out q hq
        have HRR := Lib.hid hrr
        clear hrr
        have HSW := Lib.hid (fun w1 (hs1 : Step (fun _ => False) wr w1) => swap_calls (hys.same hs1) hpl hkl)
        have HC0 := Lib.hid (fun w1 (hs1 : Step (fun _ => False) wr w1) => (hys.same hs1).cell0)
        have n2 := fun w => nil_swap a w
        clear hbk hkk hb hk hj hup hlt
        go_wp2_with (first | (go_at_call 129; refine HLE.mono ?_; rintro e w1 ⟨rfl, hs1⟩; have d0 := HC0.out w1 hs1; have hm2 := meth_swap d0) | (go_at_call 130; refine (HSW.out _ hs1).mono ?_; rintro e w2 ⟨rfl, hys2, hs2⟩))
        have hs3 := hst.same ((hs1.mono (fun _ _ h => h.elim)).same (hs2.mono (fun k _ h => (foot_perm hpm k).1 h)))
        go_roundw
        case rel => exact ⟨p, sw ys p k, rfl, by omega, hys2, (sw_perm hpl hkl).trans hpm, HE.out.1, HE.out.2, HRR.out, hs3⟩
        case measure => simp [intOf]; omega
end Go.Proofs.Ytgohlbljdffelaa.AgInt
