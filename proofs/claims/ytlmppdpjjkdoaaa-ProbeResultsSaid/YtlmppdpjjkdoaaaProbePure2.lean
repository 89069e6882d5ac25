/- The plain side of stewardlaw21.ProbeResults: rows of results. Own work of this seat. -/
import Derived.Test.YtlmppdpjjkdoaaaProbePure
namespace Go.Proofs.Ytlmppdpjjkdoaaa.ProbeR
open Go.RowKit Go.Proofs.Ytlmppdpjjkdoaaa.PProbeResults Go.Proofs.YtlmppdpjjkdoaaaW.PrintWords Go.Proofs.YtlmppdpjjkdoaaaW.PrintLast Go.Proofs.YtlmppdpjjkdoaaaW.PrintMore
set_option linter.unusedVariables false
set_option linter.unusedSimpArgs false

theorem result_at (k : Nat) (hk : 6 ≤ k) (up g : Bool) (good bad since e w r f now : Int) (g0 : -9223372036854775808 ≤ good) (g1 : good ≤ 9223372036854775807) (b0 : -9223372036854775808 ≤ bad) (b1 : bad ≤ 9223372036854775807) :
    probe_Probe_Result.f k up good bad since e w r f g now = some (rv up good bad since (cl r 1000) (cl f 1000) g now) :=
  at_rounds (probe_Probe_Result.mono up good bad since e w r f g now) hk (result_is up g good bad since e w r f now g0 g1 b0 b1)

/-- A probe and how many changes there were. -/
structure St where
  up : Bool
  good : Int
  bad : Int
  since : Int
  n : Int
def St.step (R F : Int) (q : St) (g : Bool) (now : Int) : St :=
  let v := rv q.up q.good q.bad q.since R F g now
  ⟨v.1, v.2.1, v.2.2.1, v.2.2.2.1, q.n + if v.2.2.2.2 = true then 1 else 0⟩
/-- Behind k results; round j's time is now j. -/
def St.after (R F : Int) (l : List Bool) (now : Nat → Int) (q : St) : Nat → St
  | 0 => q
  | k + 1 => (St.after R F l now q k).step R F (rdOf false l (k : Int)) (now k)

/-- Of two times the same but for the time. -/
def St.like (a b : St) : Prop := a.up = b.up ∧ a.good = b.good ∧ a.bad = b.bad ∧ a.n = b.n
theorem St.step_like {a b : St} (h : a.like b) (R F : Int) (g : Bool) (t u : Int) : (a.step R F g t).like (b.step R F g u) := by
  obtain ⟨h1, h2, h3, h4⟩ := h
  unfold St.like St.step
  rw [h1, h2, h3, h4]
  unfold rv
  cases g <;> cases b.up <;> simp <;> split <;> simp
theorem St.after_like (R F : Int) (l : List Bool) (now nov : Nat → Int) (q : St) : ∀ k, (St.after R F l now q k).like (St.after R F l nov q k)
  | 0 => ⟨rfl, rfl, rfl, rfl⟩
  | k + 1 => St.step_like (St.after_like R F l now nov q k) R F _ _ _

def St.fits (q : St) : Prop := -9223372036854775808 ≤ q.good ∧ q.good ≤ 9223372036854775807 ∧ -9223372036854775808 ≤ q.bad ∧ q.bad ≤ 9223372036854775807
theorem St.step_fits {q : St} (h : q.fits) {R F : Int} (hR : R ≤ 1000) (hF : F ≤ 1000) (g : Bool) (t : Int) : (q.step R F g t).fits := by
  obtain ⟨h1, h2, h3, h4⟩ := h
  have m1 : 0 ≤ mx 0 q.good := by rw [mx_is]; split <;> omega
  have m2 : 0 ≤ mx 0 q.bad := by rw [mx_is]; split <;> omega
  unfold St.fits St.step rv
  cases g <;> cases q.up <;> simp <;> (try split) <;> (try simp) <;> omega
theorem St.after_fits {q : St} (h : q.fits) {R F : Int} (hR : R ≤ 1000) (hF : F ≤ 1000) (l : List Bool) (now : Nat → Int) : ∀ k, (St.after R F l now q k).fits
  | 0 => h
  | k + 1 => St.step_fits (St.after_fits h hR hF l now k) hR hF _ _
theorem St.after_n {q : St} (h : q.n = 0) {R F : Int} (l : List Bool) (now : Nat → Int) : ∀ k : Nat, 0 ≤ (St.after R F l now q k).n ∧ (St.after R F l now q k).n ≤ k
  | 0 => by simp [St.after, h]
  | k + 1 => by
    obtain ⟨a, b⟩ := St.after_n h l now k (R := R) (F := F)
    simp only [St.after, St.step]
    split <;> omega
end Go.Proofs.Ytlmppdpjjkdoaaa.ProbeR
