/- The plain side of stewardlaw21.ProbeResults: Run. Own work of this seat. -/
import Derived.Test.YtlmppdpjjkdoaaaProbePure2
namespace Go.Proofs.Ytlmppdpjjkdoaaa.ProbeR
open Go.RowKit Go.Proofs.Ytlmppdpjjkdoaaa.PProbeResults Go.Proofs.YtlmppdpjjkdoaaaW.PrintWords Go.Proofs.YtlmppdpjjkdoaaaW.PrintLast Go.Proofs.YtlmppdpjjkdoaaaW.PrintMore
set_option linter.unusedVariables false
set_option linter.unusedSimpArgs false

theorem run_loop (l : List Bool) (hl : l.length ≤ 1000000) (e w r f now : Int) (q0 : St) (h0 : q0.fits) (hn : q0.n = 0) (d : Nat) : ∀ (m k : Nat), k ≤ l.length → l.length - k ≤ d → d + 7 ≤ m →
    probe_Probe_Run.l0 m now (St.after (cl r 1000) (cl f 1000) l (fun _ => now) q0 k).n l (l.length : Int) (k : Int) (St.after (cl r 1000) (cl f 1000) l (fun _ => now) q0 k).up (St.after (cl r 1000) (cl f 1000) l (fun _ => now) q0 k).good (St.after (cl r 1000) (cl f 1000) l (fun _ => now) q0 k).bad (St.after (cl r 1000) (cl f 1000) l (fun _ => now) q0 k).since e w r f =
      some ((St.after (cl r 1000) (cl f 1000) l (fun _ => now) q0 l.length).up, (St.after (cl r 1000) (cl f 1000) l (fun _ => now) q0 l.length).good, (St.after (cl r 1000) (cl f 1000) l (fun _ => now) q0 l.length).bad, (St.after (cl r 1000) (cl f 1000) l (fun _ => now) q0 l.length).since, (St.after (cl r 1000) (cl f 1000) l (fun _ => now) q0 l.length).n) := by
  have hR := cl_hi r 1000 (by omega)
  have hF := cl_hi f 1000 (by omega)
  induction d with
  | zero =>
    intro m k hk hd hm
    obtain ⟨m, rfl⟩ : ∃ j, m = j + 1 := ⟨m - 1, by omega⟩
    obtain rfl : k = l.length := by omega
    simp only [probe_Probe_Run.l0]
    rw [if_neg (by omega)]
  | succ d ih =>
    intro m k hk hd hm
    obtain ⟨m, rfl⟩ : ∃ j, m = j + 1 := ⟨m - 1, by omega⟩
    by_cases hlt : k < l.length
    · obtain ⟨g0, g1, b0, b1⟩ := St.after_fits h0 hR hF l (fun _ => now) k
      obtain ⟨n0, n1⟩ := St.after_n hn l (fun _ => now) k (R := cl r 1000) (F := cl f 1000)
      have IH := ih m (k + 1) (by omega) (by omega) (by omega)
      simp only [probe_Probe_Run.l0]
      rw [if_pos (by omega), if_pos (by omega), if_pos (by omega), result_at m (by omega) _ _ _ _ _ _ _ _ _ _ g0 g1 b0 b1, Option.bind_some, rows_wrap (x := (k : Int) + 1) (by omega) (by omega), rows_wrap (x := _ + 1) (by omega) (by omega)]
      simp only [St.after, St.step] at IH
      split
      · rename_i hi
        simp only [hi, if_true] at IH
        exact IH
      · rename_i hi
        simp only [hi, if_false, Int.add_zero, Bool.false_eq_true] at IH
        exact IH
    · obtain rfl : k = l.length := by omega
      simp only [probe_Probe_Run.l0]
      rw [if_neg (by omega)]

theorem run_is (l : List Bool) (hl : l.length ≤ 1000000) (e w r f now : Int) (q0 : St) (h0 : q0.fits) (hn : q0.n = 0) :
    probe_Probe_Run.f (l.length + 7) q0.up q0.good q0.bad q0.since e w r f now l = some ((St.after (cl r 1000) (cl f 1000) l (fun _ => now) q0 l.length).up, (St.after (cl r 1000) (cl f 1000) l (fun _ => now) q0 l.length).good, (St.after (cl r 1000) (cl f 1000) l (fun _ => now) q0 l.length).bad, (St.after (cl r 1000) (cl f 1000) l (fun _ => now) q0 l.length).since, (St.after (cl r 1000) (cl f 1000) l (fun _ => now) q0 l.length).n) := by
  have := run_loop l hl e w r f now q0 h0 hn l.length (l.length + 7) 0 (by omega) (by omega) (by omega)
  simp only [St.after, hn] at this
  exact this
end Go.Proofs.Ytlmppdpjjkdoaaa.ProbeR
