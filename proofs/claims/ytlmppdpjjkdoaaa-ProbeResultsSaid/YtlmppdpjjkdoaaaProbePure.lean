/- The plain side of stewardlaw21.ProbeResults. Own work of this seat. -/
import Derived.Test.YtlmppdpjjkdoaaaPProbeResultsx4
namespace Go.Proofs.Ytlmppdpjjkdoaaa.ProbeR
open Go.RowKit Go.Proofs.Ytlmppdpjjkdoaaa.PProbeResults Go.Proofs.YtlmppdpjjkdoaaaW.PrintWords Go.Proofs.YtlmppdpjjkdoaaaW.PrintLast Go.Proofs.YtlmppdpjjkdoaaaW.PrintMore
set_option linter.unusedVariables false
set_option linter.unusedSimpArgs false

theorem rows_wrap {x : Int} (h0 : -9223372036854775808 ≤ x) (h1 : x ≤ 9223372036854775807) : wrap64 x = x := by
  unfold wrap64; omega
theorem mx_is (a b : Int) : mx a b = if a < b then b else a := rfl
theorem mn_is (a b : Int) : mn a b = if b < a then b else a := rfl
/-- A bound clipped. -/
def cl (n most : Int) : Int := mx 1 (mn n most)
theorem cl_lo (n most : Int) : 1 ≤ cl n most := by unfold cl; rw [mx_is, mn_is]; split <;> split <;> omega
theorem cl_hi (n most : Int) (h : 1 ≤ most) : cl n most ≤ most := by unfold cl; rw [mx_is, mn_is]; split <;> split <;> omega

/-- One result, of a probe whose bounds are clipped. -/
def rv (up : Bool) (good bad since ri fa : Int) (g : Bool) (now : Int) : Bool × Int × Int × Int × Bool :=
  if g = true then (if up = true then (true, good, 0, since, false) else if mx 0 good ≥ ri - 1 then (true, 0, 0, now, true) else (false, mx 0 good + 1, 0, since, false))
  else (if up = true then (if mx 0 bad ≥ fa - 1 then (false, 0, 0, now, true) else (true, 0, mx 0 bad + 1, since, false)) else (false, 0, bad, since, false))

theorem row_is (n want : Int) (h0 : -9223372036854775808 ≤ n) (h1 : n ≤ 9223372036854775807) (h2 : 1 ≤ want) (h3 : want ≤ 1000) : probe_row.f n want = if mx 0 n ≥ want - 1 then some (0, true) else some (mx 0 n + 1, false) := by
  unfold probe_row.f
  have hm : mx 0 n ≤ 9223372036854775807 ∧ 0 ≤ mx 0 n := by rw [mx_is]; split <;> omega
  generalize mx 0 n = m at *
  by_cases hbig : m = 9223372036854775807
  · subst hbig
    by_cases h : wrap64 (9223372036854775807 + 1) ≥ want
    · rw [if_pos h, if_pos (by omega)]
    · rw [if_neg h, if_pos (by omega), if_pos (by omega)]
  · rw [rows_wrap (by omega) (by omega)]
    by_cases h : m + 1 ≥ want
    · rw [if_pos h, if_pos (by omega)]
    · rw [if_neg h, if_neg (by omega), if_neg (by omega)]

theorem clip_is (e w r f : Int) : probe_Config_Clip.f e w r f = some (cl e 1048576, cl w 1048576, cl r 1000, cl f 1000) := rfl
theorem refclip_is (e w r f : Int) : stewardref21_Clip.f e w r f = some (cl e 1048576, cl w 1048576, cl r 1000, cl f 1000) := rfl

theorem result_is (up g : Bool) (good bad since e w r f now : Int) (g0 : -9223372036854775808 ≤ good) (g1 : good ≤ 9223372036854775807) (b0 : -9223372036854775808 ≤ bad) (b1 : bad ≤ 9223372036854775807) :
    probe_Probe_Result.f 6 up good bad since e w r f g now = some (rv up good bad since (cl r 1000) (cl f 1000) g now) := by
  unfold probe_Probe_Result.f
  rw [clip_is]
  have hr := cl_lo r 1000
  have hr' := cl_hi r 1000 (by omega)
  have hf := cl_lo f 1000
  have hf' := cl_hi f 1000 (by omega)
  generalize cl r 1000 = R at *
  generalize cl f 1000 = F at *
  have e1 := row_is good R g0 g1 hr hr'
  have e2 := row_is bad F b0 b1 hf hf'
  cases up <;> cases g <;> simp [rv, probe_Probe_Result.j0, probe_Probe_Result.j1, e1, e2] <;> split <;> simp [probe_Probe_Result.j1]

theorem ref_is (up g : Bool) (good bad since e w r f now : Int) (g0 : -9223372036854775808 ≤ good) (g1 : good ≤ 9223372036854775807) (b0 : -9223372036854775808 ≤ bad) (b1 : bad ≤ 9223372036854775807) :
    stewardref21_Result.f up good bad since e w r f g now = some (rv up good bad since (cl r 1000) (cl f 1000) g now) := by
  unfold stewardref21_Result.f
  rw [refclip_is]
  have hr := cl_lo r 1000
  have hr' := cl_hi r 1000 (by omega)
  have hf := cl_lo f 1000
  have hf' := cl_hi f 1000 (by omega)
  generalize cl r 1000 = R at *
  generalize cl f 1000 = F at *
  have key : ∀ (n want : Int), -9223372036854775808 ≤ n → n ≤ 9223372036854775807 → 1 ≤ want → want ≤ 1000 → ∀ {α : Type} (x y : α), (if n ≥ wrap64 (want - 1) then x else (if wrap64 (mx 0 n + 1) ≥ want then x else y)) = if mx 0 n ≥ want - 1 then x else y := by
    intro n want h0 h1 h2 h3 α x y
    rw [rows_wrap (x := want - 1) (by omega) (by omega)]
    by_cases h : n ≥ want - 1
    · rw [if_pos h, if_pos (by rw [mx_is]; split <;> omega)]
    · rw [if_neg h]
      have hm : mx 0 n ≤ 1000 ∧ 0 ≤ mx 0 n := by rw [mx_is]; split <;> omega
      rw [rows_wrap (by omega) (by omega)]
      by_cases h2 : mx 0 n + 1 ≥ want
      · rw [if_pos h2, if_pos (by omega)]
      · rw [if_neg h2, if_neg (by omega)]
  have kw : ∀ (n want : Int), n ≤ 9223372036854775807 → want ≤ 1000 → ¬ mx 0 n ≥ want - 1 → wrap64 (mx 0 n + 1) = mx 0 n + 1 := by
    intro n want h1 h3 h
    exact rows_wrap (by have : 0 ≤ mx 0 n := by rw [mx_is]; split <;> omega
                        omega) (by omega)
  simp only [Option.bind_some]
  cases up <;> cases g <;> simp only [rv, if_true, if_false, Bool.false_eq_true, Option.bind_some]
  · rw [key good R g0 g1 hr hr']
    by_cases h : mx 0 good ≥ R - 1
    · rw [if_pos h, if_pos h]
    · rw [if_neg h, if_neg h, kw good R g1 hr' h]
  · rw [key bad F b0 b1 hf hf']
    by_cases h : mx 0 bad ≥ F - 1
    · rw [if_pos h, if_pos h]
    · rw [if_neg h, if_neg h, kw bad F b1 hf' h]
end Go.Proofs.Ytlmppdpjjkdoaaa.ProbeR
