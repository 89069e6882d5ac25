/- law 23: a call of both. Printed by wip/tools/gen_hedo.py; own work of this seat. -/
import Derived.Test.YtghiklaeenhljaaHeDo1
import Derived.Test.YtghiklaeenhljaaHeDo2
import Derived.Test.YtghiklaeenhljaaHeDo3
import Derived.Test.YtghiklaeenhljaaHeDo4
import Derived.Test.YtghiklaeenhljaaHeDo5
namespace Go.Proofs.Ytghiklaeenhljaa.HeD
open Go.RowKit Go.Proofs.Ytghiklaeenhljaa.Kit Go.Proofs.Ytghiklaeenhljaa.It Go.Proofs.Ytghiklaeenhljaa.Hea Go.Proofs.Ytghiklaeenhljaa.AgP Go.Proofs.Ytghiklaeenhljaa.Cut Go.Proofs.YtghiklaeenhljaaW.PrintWords Go.Proofs.Ytghiklaeenhljaa
set_option linter.unusedVariables false
set_option linter.unusedSimpArgs false

theorem do_calls {w : World} {p : Nat} {F : Nat → Prop} {c : Cf} {q : ByteArray → Option Ho} {L : List (Ev ByteArray)} {t u : Nat} {ep : Int} {A : Option Addr} {cA : Nat} {l : List Oe} {B : Option Addr} {cB : Nat} (h : Bo w p F c q L t u ep A cA l B cB) (kd nn : Int) (nm : ByteArray) (gd : Bool) (hnm : nm.size ≤ 9223372036854775807) (now : Int) (hb : Small now u ep l L) :
    Calls Try.prog 23 #[.pointer (some ⟨p, 0, none⟩), .agg #[.int .i64 c.every, .int .i64 c.wait, .int .i64 c.rise, .int .i64 c.fall, .slice A l.length cA, .slice B L.length cB, .int .i64 ep], .agg #[.int .i64 kd, .int .i64 nn, .string nm, .bool gd], .int .i64 now] w fun e w' => ∃ (F' : Nat → Prop) (q' : ByteArray → Option Ho) (L' : List (Ev ByteArray)) (t' u' : Nat) (ep' : Int) (A' : Option Addr) (cA' : Nat) (l' : List Oe) (B' : Option Addr) (cB' : Nat), e = .returned (.tuple #[.agg #[.int .i64 c.every, .int .i64 c.wait, .int .i64 c.rise, .int .i64 c.fall, .slice A' l'.length cA', .slice B' L'.length cB', .int .i64 ep'], .bool true]) ∧
      Bo w' p F' c q' L' t' u' ep' A' cA' l' B' cB' ∧ Step F w w' ∧ (∀ k, F' k → F k ∨ w.heap.size ≤ k) ∧ (∀ k, blockOf A' = some k → blockOf A = some k ∨ w.heap.size ≤ k) ∧ (∀ k, blockOf B' = some k → blockOf B = some k ∨ w.heap.size ≤ k) ∧ Grow now u ep l L u' ep' l' L' := by
  by_cases h0 : kd = 0
  · subst h0
    cases hq : q (cutB nm 12) with
    | none => exact do_add_new h nn nm gd hnm now hb hq
    | some x => exact do_add_old h nn nm gd hnm now hb hq
  · by_cases h1 : kd = 1
    · subst h1
      cases hq : q (cutB nm 12) with
      | none => exact do_rem_none h nn nm gd hnm now hb hq
      | some x => exact do_rem_some h nn nm gd hnm now hb hq
    · by_cases h2 : kd = 2
      · subst h2
        exact do_run h nn nm gd hnm now hb
      · cases hq : q (cutB nm 12) with
        | none => exact do_res_none h kd nn (by simp [h0]) (by simp [h1]) (by simp [h2]) nm gd hnm now hb hq
        | some x =>
          cases hw : x.waits with
          | false => exact do_res_idle h kd nn (by simp [h0]) (by simp [h1]) (by simp [h2]) nm gd hnm now hb hq hw
          | true => exact do_res_waits h kd nn (by simp [h0]) (by simp [h1]) (by simp [h2]) nm gd hnm now hb hq hw
end Go.Proofs.Ytghiklaeenhljaa.HeD
