/- The plain side of stewardlaw21.ProbeResults: Run over the first results. Own work of this seat. -/
import Derived.Test.YtlmppdpjjkdoaaaProbePure3
namespace Go.Proofs.Ytlmppdpjjkdoaaa.ProbeR
open Go.RowKit Go.Proofs.Ytlmppdpjjkdoaaa.PProbeResults Go.Proofs.YtlmppdpjjkdoaaaW.PrintWords Go.Proofs.YtlmppdpjjkdoaaaW.PrintLast Go.Proofs.YtlmppdpjjkdoaaaW.PrintMore
set_option linter.unusedVariables false
set_option linter.unusedSimpArgs false

theorem rdOf_take (l : List Bool) (m j : Nat) (h : j < m) : rdOf false (l.take m) (j : Int) = rdOf false l (j : Int) := by
  simp only [rdOf, Int.toNat_natCast, List.getElem?_take, if_pos h, List.getD_eq_getElem?_getD]
theorem St.after_take (R F : Int) (l : List Bool) (now : Nat → Int) (q : St) (m : Nat) : ∀ j, j ≤ m → St.after R F (l.take m) now q j = St.after R F l now q j
  | 0, _ => rfl
  | j + 1, h => by
    simp only [St.after]
    rw [St.after_take R F l now q m j (by omega), rdOf_take l m j (by omega)]

theorem run_end (l : List Bool) (e w r f : Int) (q0 : St) (h0 : q0.fits) (hn : q0.n = 0) (k : Nat) (hk : k ≤ l.length) (hk60 : k ≤ 60) (q : St) (hq : St.after (cl r 1000) (cl f 1000) l (fun j => (j : Int)) q0 k = q) :
    ∃ z, probe_Probe_Run.f (k + 7) q0.up q0.good q0.bad q0.since e w r f 7 (l.take k) = some (q.up, q.good, q.bad, z, q.n) := by
  have hlen : (l.take k).length = k := by rw [List.length_take]; omega
  have h := run_is (l.take k) (by omega) e w r f 7 q0 h0 hn
  rw [hlen, St.after_take _ _ _ _ _ _ _ (Nat.le_refl _)] at h
  obtain ⟨h1, h2, h3, h4⟩ := St.after_like (cl r 1000) (cl f 1000) l (fun _ => 7) (fun j => (j : Int)) q0 k
  rw [hq] at h1 h2 h3 h4
  rw [h1, h2, h3, h4] at h
  exact ⟨_, h⟩
end Go.Proofs.Ytlmppdpjjkdoaaa.ProbeR
