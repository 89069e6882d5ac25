/- law 23: a call of both. Printed by wip/tools/gen_hedo.py; own work of this seat. -/
import Derived.Test.YtghiklaeenhljaaHeE2
import Derived.Test.YtghiklaeenhljaaHeD5
import Derived.Test.YtghiklaeenhljaaHeD6
namespace Go.Proofs.Ytghiklaeenhljaa.HeD
open Go.RowKit Go.Proofs.Ytghiklaeenhljaa.Kit Go.Proofs.Ytghiklaeenhljaa.It Go.Proofs.Ytghiklaeenhljaa.Hea Go.Proofs.Ytghiklaeenhljaa.AgP Go.Proofs.Ytghiklaeenhljaa.Cut Go.Proofs.YtghiklaeenhljaaW.PrintWords Go.Proofs.Ytghiklaeenhljaa
set_option linter.unusedVariables false
set_option linter.unusedSimpArgs false

/-- Small enough for a call. -/
def Small (now : Int) (u : Nat) (ep : Int) (l : List Oe) (L : List (Ev ByteArray)) : Prop := u + 2 * Hea.load now L ≤ 60000 ∧ (0 ≤ ep ∧ ep + Hea.load now L ≤ 900000) ∧ l.length ≤ 900 ∧ L.length ≤ 900
/-- By how much it may grow in a call. -/
def Grow (now : Int) (u : Nat) (ep : Int) (l : List Oe) (L : List (Ev ByteArray)) (u' : Nat) (ep' : Int) (l' : List Oe) (L' : List (Ev ByteArray)) : Prop := u' ≤ u + 2 * Hea.load now L + 2 ∧ (0 ≤ ep' ∧ ep' ≤ ep + Hea.load now L + 1) ∧ l'.length ≤ l.length + 1 ∧ L'.length ≤ L.length + 1 ∧ (now ≤ 1099511627776 → 0 ≤ now → u' + 2 * Hea.load now L' ≤ u + 2 * Hea.load now L + 2 ∧ ep' + Hea.load now L' ≤ ep + Hea.load now L + 1)
theorem load_drop (now : Int) (L : List (Ev ByteArray)) (s : ByteArray) : Hea.load now (dropL L s) ≤ Hea.load now L := by
  unfold dropL
  induction L with
  | nil => exact Nat.le_refl _
  | cons e r ih =>
    have h1 : ∀ x : List (Ev ByteArray), Hea.load now (e :: x) = (now + 1 - e.tm).toNat + Hea.load now x := fun x => by simp [Hea.load]
    rw [List.filter_cons]
    split
    · rw [h1, h1]; omega
    · rw [h1]; omega
theorem load_tim {now v : Int} (hv : now < v) (L : List (Ev ByteArray)) (t : Nat) (s : ByteArray) : Hea.load now (timL L t s v).1 ≤ Hea.load now L := by
  have hd := load_drop now L s
  unfold timL
  split
  · rw [load_perm (perm_set L s v _)]
    have h1 : Hea.load now (⟨s, v, ((t + 1 : Nat) : Int)⟩ :: dropL L s) = (now + 1 - v).toNat + Hea.load now (dropL L s) := by simp [Hea.load]
    rw [h1]
    omega
  · exact hd
theorem load_zero {now : Int} {L : List (Ev ByteArray)} (h : ∀ e ∈ L, now < e.tm) : Hea.load now L = 0 := by
  induction L with
  | nil => rfl
  | cons e r ih =>
    have h1 : Hea.load now (e :: r) = (now + 1 - e.tm).toNat + Hea.load now r := by simp [Hea.load]
    have h2 := h e (List.mem_cons_self ..)
    rw [h1, ih (fun y hy => h y (List.mem_cons_of_mem _ hy))]
    omega
theorem load_up {now now1 : Int} (hn : now ≤ now1) (hm : now1 ≤ now + 31) (L : List (Ev ByteArray)) : Hea.load now1 L ≤ Hea.load now L + 31 * L.length := by
  induction L with
  | nil => exact Nat.le_refl _
  | cons e r ih =>
    have h1 : ∀ m : Int, Hea.load m (e :: r) = (m + 1 - e.tm).toNat + Hea.load m r := fun m => by simp [Hea.load]
    rw [h1, h1, List.length_cons]
    omega
theorem clipT_id {now : Int} (h0 : 0 ≤ now) (h1 : now ≤ 1099511627776) : AgStr.clipT now = now := by unfold AgStr.clipT; omega
theorem cutsz (nm : ByteArray) : (cutB nm 12).size ≤ 1000 := by have := cutB_size nm 12; omega
theorem Bo.fin {w w3 w5 w6 : World} {p zb : Nat} {F F5 : Nat → Prop} {c : Cf} {q : ByteArray → Option Ho} {L : List (Ev ByteArray)} {t u : Nat} {ep : Int} {A : Option Addr} {cA n m : Nat} {l : List Oe} {ts : List It} {B : Option Addr} {cB : Nat} (hF : ∀ k, F k → k < w.heap.size) (hs3 : Step (fun _ => False) w w3) (hA : ORd w3 A n l) (hB : IRd w3 B m ts) (hts : its L = ts) (hle : m ≤ cB)
    (hAb : ∀ k, blockOf A = some k → w.heap.size ≤ k ∧ k < w3.heap.size ∧ k ≠ zb) (hBb : ∀ k, blockOf B = some k → w.heap.size ≤ k ∧ k < w3.heap.size ∧ k ≠ zb) (hz : w.heap.size ≤ zb ∧ zb < w3.heap.size) (hs5 : Step F w3 w5) (hn5 : ∀ k, F5 k → F k ∨ w3.heap.size ≤ k) (hI : HeR w5 p F5 c q L t u ep) (hs6 : Step (· = zb) w5 w6) (hM : Mt q l) (haj : ∃ kk, AJ c ⟨q, L, t, ep, []⟩ kk) (hnm : ∀ s, (q s).isSome = true → s.size ≤ 1000) (htm : ∀ e ∈ L, e.tm ≤ 1099511627776) :
    (n = l.length ∧ m = L.length) ∧ Bo w6 p F5 c q L t u ep A cA l B cB ∧ Step F w w6 ∧ (∀ k, F5 k → F k ∨ w.heap.size ≤ k) := by
  have hz3 := hs3.size
  have hz5 := hs5.size
  have hz6 := hs6.size
  have hAn : ∀ k, blockOf A = some k → ¬ F k ∧ ¬ F5 k := fun k hk => ⟨fun h => by have := hF k h; have := hAb k hk; omega, fun h => (hn5 k h).elim (fun h => by have := hF k h; have := hAb k hk; omega) (fun h => by have := hAb k hk; omega)⟩
  have hBn : ∀ k, blockOf B = some k → ¬ F k ∧ ¬ F5 k := fun k hk => ⟨fun h => by have := hF k h; have := hBb k hk; omega, fun h => (hn5 k h).elim (fun h => by have := hF k h; have := hBb k hk; omega) (fun h => by have := hBb k hk; omega)⟩
  have hn := hA.len
  have hm := hB.len
  subst hts
  rw [its_length] at hm
  subst hn hm
  refine ⟨⟨rfl, rfl⟩, ⟨hI.keep hs6 (fun k hk e => (hn5 k hk).elim (fun h => by have := hF k h; omega) (fun h => by omega)), (hA.keep hs5 (fun k hk => (hAn k hk).1)).keep hs6 (fun k hk => (hAb k hk).2.2), (hB.keep hs5 (fun k hk => (hBn k hk).1)).keep hs6 (fun k hk => (hBb k hk).2.2), hle, hM, ⟨fun k hk => (hAn k hk).2, fun k hk => (hBn k hk).2⟩, ⟨fun k hk => by have := hAb k hk; omega, fun k hk => by have := hBb k hk; omega⟩, haj, hnm, htm⟩, ((hs3.mono (fun _ _ h => h.elim)).same hs5).trans hs6 (fun j hj e => by omega), fun k hk => (hn5 k hk).imp id (fun h => by omega)⟩
theorem setQ_nms {q : ByteArray → Option Ho} {s : ByteArray} {v : Option Ho} (h : ∀ s, (q s).isSome = true → s.size ≤ 1000) (hs : s.size ≤ 1000) : ∀ r, (setQ q s v r).isSome = true → r.size ≤ 1000 := by
  intro r hr
  unfold setQ at hr
  split at hr
  · rename_i e; rw [e]; exact hs
  · exact h r hr
theorem timL_tms {L : List (Ev ByteArray)} {t : Nat} {s : ByteArray} {v : Int} (h : ∀ e ∈ L, e.tm ≤ 1099511627776) : ∀ e ∈ (timL L t s v).1, e.tm ≤ 1099511627776 := by
  intro y hy
  rcases timL_mem hy with ⟨_, h2⟩ | ⟨h1, _⟩
  · simp only [timL] at hy
    split at hy
    · rename_i hle
      rw [h2]; exact hle
    · exact h y (mem_drop.1 hy).1
  · exact h y h1
theorem HeR.cok {w : World} {p : Nat} {F : Nat → Prop} {c : Cf} {q : ByteArray → Option Ho} {L : List (Ev ByteArray)} {t u : Nat} {ep : Int} (h : HeR w p F c q L t u ep) : CfOk c := by
  obtain ⟨_, a, M, FA, n, m, f, hx, _, _⟩ := h
  exact hx.cok
theorem HeR.pok {w : World} {p : Nat} {F : Nat → Prop} {c : Cf} {q : ByteArray → Option Ho} {L : List (Ev ByteArray)} {t u : Nat} {ep : Int} (h : HeR w p F c q L t u ep) : ∀ s x, q s = some x → PbOk x.pb := by
  obtain ⟨_, a, M, FA, n, m, f, hx, _, _⟩ := h
  exact hx.ok
end Go.Proofs.Ytghiklaeenhljaa.HeD
