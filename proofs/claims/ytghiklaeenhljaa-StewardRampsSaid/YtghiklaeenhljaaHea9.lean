/- health with one name: the calls of StewardRamps. Own work of this seat. -/
import Derived.Test.YtghiklaeenhljaaHea8
import Derived.Test.YtghiklaeenhljaaWWords
import Derived.Deep.RegionHeld3
namespace Go.Proofs.Ytghiklaeenhljaa.Hea
open Go.RowKit Go.Proofs.Ytghiklaeenhljaa.Kit Go.Proofs.Ytghiklaeenhljaa.PStewardRamps Go.Proofs.YtghiklaeenhljaaW.PrintWords Go.Proofs.Ytghiklaeenhljaa.AgP Go.Proofs.Ytghiklaeenhljaa
set_option linter.unusedVariables false
set_option linter.unusedSimpArgs false

def cc : Cf := ⟨3, 2, 1, 1⟩
theorem cc_ok : CfOk cc := by unfold CfOk cc; simp only; omega
def kA : ByteArray := ⟨#[97]⟩
theorem kA_sz : kA.size ≤ 1000 := by decide
theorem insL_nil (e : Ev ByteArray) : insL [] e = [e] := rfl
theorem dropL_self (k : ByteArray) (a b : Int) : dropL [⟨k, a, b⟩] k = [] := by simp [dropL]
theorem timL_nil {t : Nat} {v : Int} (hv : v ≤ 1099511627776) : timL [] t kA v = ([⟨kA, v, ((t + 1 : Nat) : Int)⟩], t + 1) := by
  unfold timL
  rw [if_pos hv]
  rfl
theorem timL_one {t : Nat} {a b v : Int} (hv : v ≤ 1099511627776) : timL [⟨kA, a, b⟩] t kA v = ([⟨kA, v, ((t + 1 : Nat) : Int)⟩], t + 1) := by
  unfold timL
  rw [if_pos hv]
  unfold setL
  rw [dropL_self]
  rfl
theorem load_one (tm b : Int) : load tm [⟨kA, tm, b⟩] = 1 := by
  unfold load
  simp only [List.map_cons, List.map_nil, List.sum_cons, List.sum_nil]
  omega
theorem setQ_self (q : ByteArray → Option Ho) (s : ByteArray) (v : Option Ho) : setQ q s v s = v := if_pos rfl
theorem runs_one {q : ByteArray → Option Ho} {tm sq ep : Int} {t : Nat} {R : Hs} {y : Pb} (hq : q kA = some ⟨y, false⟩) (ht : 0 ≤ tm ∧ tm ≤ 1000) (h : Runs cc tm ⟨q, [⟨kA, tm, sq⟩], t, ep, []⟩ R) : R = ⟨setQ q kA (some ⟨y, true⟩), [⟨kA, tm + 2, ((t + 1 : Nat) : Int)⟩], t + 1, ep, [⟨1, kA, tm⟩]⟩ := by
  have e1 : stepH cc ⟨q, [⟨kA, tm, sq⟩], t, ep, []⟩ ⟨kA, tm, sq⟩ [] = ⟨setQ q kA (some ⟨y, true⟩), [⟨kA, tm + 2, ((t + 1 : Nat) : Int)⟩], t + 1, ep, [⟨1, kA, tm⟩]⟩ := by
    unfold stepH
    simp only [hq, Option.getD_some]
    unfold turQ turV turE turN
    simp only [Bool.false_eq_true, if_false]
    rw [show tm + cc.wait = tm + 2 from rfl, timL_nil (by omega)]
    rfl
  cases h with
  | stop _ h => exact absurd (h ⟨kA, tm, sq⟩ rfl) (Int.lt_irrefl _)
  | step _ _ s r e hlt k =>
    have e' : [(⟨kA, tm, sq⟩ : Ev ByteArray)] = s :: r := e
    injection e' with e2 e3
    subst e2 e3
    rw [e1] at k
    cases k with
    | stop _ h => rfl
    | step _ _ s2 r2 e2 h2 k2 =>
      have e4 : [(⟨kA, tm + 2, ((t + 1 : Nat) : Int)⟩ : Ev ByteArray)] = s2 :: r2 := e2
      injection e4 with e5 e6
      subst e5
      exact absurd (show tm < tm + 2 by omega) h2

theorem new3 (w : World) : Calls Try.prog 7 #[.agg #[.int .i64 3, .int .i64 2, .int .i64 1, .int .i64 1]] w fun e w' => ∃ p F, e = .returned (.pointer (some ⟨p, 0, none⟩)) ∧ HeR w' p F cc (fun _ => none) [] 0 0 0 ∧ Step (fun _ => False) w w' ∧ ∀ k, F k → w.heap.size ≤ k := new_calls cc_ok w
theorem add3 {w : World} {p : Nat} {F : Nat → Prop} (h : HeR w p F cc (fun _ => none) [] 0 0 0) : Calls Try.prog 8 #[.pointer (some ⟨p, 0, none⟩), .string kA, .bool false, .int .i64 0] w fun e w' => ∃ F' q, e = .returned (.bool true) ∧ q kA = some ⟨⟨false, 0, 0, 0⟩, false⟩ ∧
    HeR w' p F' cc q [⟨kA, 3, ((1 : Nat) : Int)⟩] 1 2 1 ∧ Step F w w' ∧ ∀ k, F' k → F k ∨ w.heap.size ≤ k := by
  refine (add_new h (by omega) (by omega) kA_sz false 0 rfl).mono ?_
  rintro e w' ⟨F', rfl, h1, h2, h3⟩
  rw [show AgStr.clipT 0 = 0 from rfl, show (0 : Int) + cc.every = 3 from rfl, timL_nil (by omega)] at h1
  exact ⟨F', _, rfl, setQ_self _ _ _, h1, h2, h3⟩
theorem first3 {w : World} {p : Nat} {F : Nat → Prop} {q : ByteArray → Option Ho} {tm sq ep : Int} {t u : Nat} (h : HeR w p F cc q [⟨kA, tm, sq⟩] t u ep) (hu : u ≤ 80000) : Calls Try.prog 9 #[.pointer (some ⟨p, 0, none⟩)] w fun e w' => e = .returned (.tuple #[.int .i64 tm, .bool true]) ∧ w = w' := first_calls h hu
theorem run3 {w : World} {p : Nat} {F : Nat → Prop} {q : ByteArray → Option Ho} {tm sq ep : Int} {t u : Nat} {y : Pb} (h : HeR w p F cc q [⟨kA, tm, sq⟩] t u ep) (hu : u ≤ 1000) (hep : 0 ≤ ep ∧ ep ≤ 1000) (ht : 0 ≤ tm ∧ tm ≤ 1000) (hq : q kA = some ⟨y, false⟩) : Calls Try.prog 10 #[.pointer (some ⟨p, 0, none⟩), .int .i64 tm] w fun e w' => ∃ F' A cA q' sq' t' u', e = .returned (.slice A 1 cA) ∧ ESeg w' A 1 cA [⟨1, kA, tm⟩] ∧ q' kA = some ⟨y, true⟩ ∧
    HeR w' p F' cc q' [⟨kA, tm + 2, sq'⟩] t' u' ep ∧ u' ≤ u + 2 ∧ Step F w w' ∧ ∀ k, F' k → F k ∨ w.heap.size ≤ k := by
  have hl := load_one tm sq
  refine (run_calls h tm (by omega) (by omega) (fun s hs => by
    obtain rfl : s = ⟨kA, tm, sq⟩ := by simpa using hs
    show 0 ≤ tm ∧ tm ≤ _
    omega)).mono ?_
  rintro e w' ⟨R, F', A, cA, u', hR, rfl, hA, hAf, hI, hu', hep', htm, hs, hn⟩
  obtain rfl := runs_one hq ht hR
  rw [hl] at hu'
  exact ⟨F', A, cA, _, _, _, u', rfl, hA, setQ_self _ _ _, hI, by omega, hs, hn⟩
theorem waits3 {w : World} {p : Nat} {F : Nat → Prop} {q : ByteArray → Option Ho} {L : List (Ev ByteArray)} {ep : Int} {t u : Nat} {y : Pb} {b : Bool} (h : HeR w p F cc q L t u ep) (hq : q kA = some ⟨y, b⟩) : Calls Try.prog 11 #[.pointer (some ⟨p, 0, none⟩), .string kA] w fun e w' => e = .returned (.bool b) ∧ w = w' := by
  have := waits_calls h kA_sz
  rw [hq] at this
  exact this
theorem resP_one (g up : Bool) (si tm : Int) : resP ⟨up, 0, 0, si⟩ cc g tm = (⟨g, 0, 0, if g = up then si else tm⟩, g != up) := by
  cases g <;> cases up <;> rfl
theorem res3 {w : World} {p : Nat} {F : Nat → Prop} {q : ByteArray → Option Ho} {a b tm si ep : Int} {t u : Nat} {up : Bool} (h : HeR w p F cc q [⟨kA, a, b⟩] t u ep) (hu : u ≤ 1000) (hep : 0 ≤ ep ∧ ep ≤ 1000) (ht : 0 ≤ tm ∧ tm ≤ 1000) (hq : q kA = some ⟨⟨up, 0, 0, si⟩, true⟩) (g : Bool) : Calls Try.prog 12 #[.pointer (some ⟨p, 0, none⟩), .string kA, .bool g, .int .i64 tm] w fun e w' => ∃ F' A cA q' t' ep', e = .returned (.tuple #[.slice A (if g = up then 0 else 1) cA, .int .i64 0]) ∧ q' kA = some ⟨⟨g, 0, 0, if g = up then si else tm⟩, false⟩ ∧
    HeR w' p F' cc q' [⟨kA, tm + 3, ((t' : Nat) : Int)⟩] t' (u + 2) ep' ∧ (ep ≤ ep' ∧ ep' ≤ ep + 1) ∧ Step F w w' ∧ ∀ k, F' k → F k ∨ w.heap.size ≤ k := by
  have hcl : AgStr.clipT tm = tm := by unfold AgStr.clipT; omega
  refine (res_waits h (by omega) (by omega) kA_sz g tm hq rfl).mono ?_
  rintro e w' ⟨F', A, cA, rfl, hA, hAf, hI, hs, hn⟩
  rw [hcl] at hI ⊢
  simp only [resP_one] at hI ⊢
  rw [show tm + cc.every = tm + 3 from rfl, timL_one (by omega)] at hI
  refine ⟨F', A, cA, _, _, _, ?_, ?_, hI, ?_, hs, hn⟩
  · cases g <;> cases up <;> rfl
  · exact setQ_self _ _ _
  · split <;> omega
theorem up3 {w : World} {p : Nat} {F : Nat → Prop} {q : ByteArray → Option Ho} {L : List (Ev ByteArray)} {ep : Int} {t u : Nat} {g : Bool} {si : Int} {b : Bool} (h : HeR w p F cc q L t u ep) (hq : q kA = some ⟨⟨g, 0, 0, si⟩, b⟩) : Calls Try.prog 13 #[.pointer (some ⟨p, 0, none⟩), .string kA] w fun e w' => e = .returned (.tuple #[.agg #[.string kA, .bool g, .int .i64 si], .bool true]) ∧ Step (fun _ => False) w w' := by
  have := up_calls h kA_sz
  unfold upV at this
  rw [hq] at this
  exact this

/-- The weight of a slope, d ticks after its begin. -/
def rV (W S d : Int) : Int := if S ≤ d then W else mx 1 (Int.tdiv (W * d) S)
theorem wrap64_in {x : Int} (h0 : -9223372036854775808 ≤ x) (h1 : x ≤ 9223372036854775807) : wrap64 x = x := by
  unfold wrap64; omega
theorem ramp_is {W S s n : Int} (hW : 2 ≤ W ∧ W ≤ 1025) (hS : 1 ≤ S ∧ S ≤ 64) (hs : 0 ≤ s) (hn : s ≤ n ∧ n ≤ 1000) : ramp_Weight.f W s n S = some (rV W S (n - s)) := by
  have hc : ∀ x a b : Int, a ≤ x → x ≤ b → mx a (mn x b) = x := fun x a b h1 h2 => by
    have e : mn x b = x := by unfold mn; rw [if_neg (by omega)]
    rw [e]
    unfold mx
    split <;> omega
  unfold ramp_Weight.f ramp_of.f ramp_clip.f
  simp only [Option.bind_some]
  rw [hc W 1 65535 (by omega) (by omega), hc s 0 1099511627776 (by omega) (by omega), hc S 0 1048576 (by omega) (by omega), hc n 0 1099511627776 (by omega) (by omega), wrap64_in (by omega) (by omega)]
  unfold ramp_slope_at.f rV
  rw [if_neg (by omega)]
  by_cases h : n - s ≥ S
  · rw [if_pos h, if_pos h]; rfl
  · rw [if_neg h, if_neg (by omega)]
    have e : mx 0 (n - s) = n - s := by unfold mx; split <;> omega
    have hm0 : 0 ≤ W * (n - s) := Int.mul_nonneg (by omega) (by omega)
    have hm1 : W * (n - s) ≤ 1025 * 1000 := Int.mul_le_mul (by omega) (by omega) (by omega) (by omega)
    have hq0 : 0 ≤ Int.tdiv (W * (n - s)) S := Int.tdiv_nonneg hm0 (by omega)
    have hq1 : Int.tdiv (W * (n - s)) S ≤ W * (n - s) := Int.tdiv_le_self _ hm0
    rw [e, wrap64_in (x := W * (n - s)) (by omega) (by omega), wrap64_in (x := Int.tdiv (W * (n - s)) S) (by omega) (by omega)]
    rfl
theorem weight_calls {W S s n : Int} (hW : 2 ≤ W ∧ W ≤ 1025) (hS : 1 ≤ S ∧ S ≤ 64) (hs : 0 ≤ s) (hn : s ≤ n ∧ n ≤ 1000) (w : World) : Calls Try.prog 14 #[.int .i64 W, .int .i64 s, .int .i64 n, .int .i64 S] w fun e w' => e = .returned (.int .i64 (rV W S (n - s))) ∧ Step (fun _ => False) w w' :=
  (ramp_Weight.calls _ _ _ _ _ w (ramp_is hW hS hs hn)).mono fun e w' h => ⟨h.1, step_bel h.2⟩
theorem bits_1023 (n : Int) : Go.bits .and .i64 n 1023 = n % 1024 := by
  have h7 : (BitVec.ofInt 64 1023).toNat = 2 ^ 10 - 1 := by decide
  have key : (BitVec.ofInt 64 n &&& BitVec.ofInt 64 1023).toNat = (n % ((2 ^ 64 : Nat) : Int)).toNat % 2 ^ 10 := by
    rw [BitVec.toNat_and, BitVec.toNat_ofInt, h7, Nat.and_two_pow_sub_one_eq_mod]
  show IntKind.i64.wrap ((BitVec.ofInt 64 n &&& BitVec.ofInt 64 1023).toNat : Nat) = n % 1024
  rw [key, IntKind.wrap_i64]
  omega
theorem bits_63 (n : Int) : Go.bits .and .i64 n 63 = n % 64 := by
  have h7 : (BitVec.ofInt 64 63).toNat = 2 ^ 6 - 1 := by decide
  have key : (BitVec.ofInt 64 n &&& BitVec.ofInt 64 63).toNat = (n % ((2 ^ 64 : Nat) : Int)).toNat % 2 ^ 6 := by
    rw [BitVec.toNat_and, BitVec.toNat_ofInt, h7, Nat.and_two_pow_sub_one_eq_mod]
  show IntKind.i64.wrap ((BitVec.ofInt 64 n &&& BitVec.ofInt 64 63).toNat : Nat) = n % 64
  rw [key, IntKind.wrap_i64]
  omega
end Go.Proofs.Ytghiklaeenhljaa.Hea
