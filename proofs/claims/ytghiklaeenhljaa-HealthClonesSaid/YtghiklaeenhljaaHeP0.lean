/- law 23: what stands between the calls of HealthPlays and HealthClones. Own work of this seat. -/
import Derived.Test.YtghiklaeenhljaaHeDo6
import Derived.Test.YtghiklaeenhljaaHeE3
import Derived.Test.YtghiklaeenhljaaMHealthEpochs2
namespace Go.Proofs.Ytghiklaeenhljaa.HeD
open Go.RowKit Go.Proofs.Ytghiklaeenhljaa.Kit Go.Proofs.Ytghiklaeenhljaa.It Go.Proofs.Ytghiklaeenhljaa.Hea Go.Proofs.Ytghiklaeenhljaa.AgP Go.Proofs.Ytghiklaeenhljaa.Cut Go.Proofs.YtghiklaeenhljaaW.PrintWords Go.Proofs.Ytghiklaeenhljaa
set_option linter.unusedVariables false
set_option linter.unusedSimpArgs false

theorem put7 {w : World} {b : Nat} {T : TypeId} {a0 a1 a2 a3 a4 a5 a6 : Value} (h : Blk w b T [a0, a1, a2, a3, a4, a5, a6]) (b0 b1 b2 b3 b4 b5 b6 : Value) :
    Blk (((((((w.setCell ⟨b, 0, none⟩ b0).setCell ⟨b, 1, none⟩ b1).setCell ⟨b, 2, none⟩ b2).setCell ⟨b, 3, none⟩ b3).setCell ⟨b, 4, none⟩ b4).setCell ⟨b, 5, none⟩ b5).setCell ⟨b, 6, none⟩ b6) b T [b0, b1, b2, b3, b4, b5, b6] ∧ Step (· = b) w (((((((w.setCell ⟨b, 0, none⟩ b0).setCell ⟨b, 1, none⟩ b1).setCell ⟨b, 2, none⟩ b2).setCell ⟨b, 3, none⟩ b3).setCell ⟨b, 4, none⟩ b4).setCell ⟨b, 5, none⟩ b5).setCell ⟨b, 6, none⟩ b6) :=
  ⟨((((((h.set 0 b0).set 1 b1).set 2 b2).set 3 b3).set 4 b4).set 5 b5).set 6 b6, (((((((Step.refl (· = b) w).setCell (p := ⟨b, 0, none⟩) (fun _ => rfl) b0).setCell (p := ⟨b, 1, none⟩) (fun _ => rfl) b1).setCell (p := ⟨b, 2, none⟩) (fun _ => rfl) b2).setCell (p := ⟨b, 3, none⟩) (fun _ => rfl) b3).setCell (p := ⟨b, 4, none⟩) (fun _ => rfl) b4).setCell (p := ⟨b, 5, none⟩) (fun _ => rfl) b5).setCell (p := ⟨b, 6, none⟩) (fun _ => rfl) b6⟩

def Xc (c : Cf) (A : Option Addr) (n cA : Nat) (B : Option Addr) (m cB : Nat) (ep : Int) : List Value := [.int .i64 c.every, .int .i64 c.wait, .int .i64 c.rise, .int .i64 c.fall, .slice A n cA, .slice B m cB, .int .i64 ep]
/-- Between the calls: both, and the document's value in its variable at xb. -/
structure HJ (w0 w : World) (xb p : Nat) (F : Nat → Prop) (c : Cf) (q : ByteArray → Option Ho) (L : List (Ev ByteArray)) (t u : Nat) (ep : Int) (A : Option Addr) (cA : Nat) (l : List Oe) (B : Option Addr) (cB : Nat) (i : Nat) (now : Int) : Prop where
  bo : Bo w p F c q L t u ep A cA l B cB
  xx : Blk w xb 60 (Xc c A l.length cA B L.length cB ep)
  low : (∀ k, F k → w0.heap.size ≤ k) ∧ w0.heap.size ≤ xb
  sep : ¬ F xb ∧ (∀ k, blockOf A = some k → k ≠ xb) ∧ ∀ k, blockOf B = some k → k ≠ xb
  bel : Below w0.heap.size w0 w
  cnt : u + 2 * Hea.load now L ≤ 62 * tri i + 2 * i ∧ (0 ≤ ep ∧ ep + Hea.load now L ≤ 31 * tri i + i) ∧ l.length ≤ i ∧ L.length ≤ i
section
variable {w0 w w' w3 w4 : World} {xb p : Nat} {F H : Nat → Prop} {c : Cf} {q : ByteArray → Option Ho} {L : List (Ev ByteArray)} {t u : Nat} {ep : Int} {A : Option Addr} {cA : Nat} {l : List Oe} {B : Option Addr} {cB : Nat} {i : Nat} {now : Int}
theorem HJ.same (h : HJ w0 w xb p F c q L t u ep A cA l B cB i now) (hs : Step (fun _ => False) w w') : HJ w0 w' xb p F c q L t u ep A cA l B cB i now :=
  ⟨h.bo.same hs, h.xx.keep hs (fun h => h), h.low, h.sep, h.bel.trans (hs.below h.bel.size (fun _ h => h.elim)), h.cnt⟩
theorem HJ.other (h : HJ w0 w xb p F c q L t u ep A cA l B cB i now) (hs : Step H w w') (h1 : ∀ k, F k → ¬ H k) (h2 : ∀ k, blockOf A = some k → ¬ H k) (h3 : ∀ k, blockOf B = some k → ¬ H k) (h4 : ¬ H xb) (hb : Below w0.heap.size w0 w') : HJ w0 w' xb p F c q L t u ep A cA l B cB i now :=
  ⟨h.bo.keep hs h1 h2 h3, h.xx.keep hs h4, h.low, h.sep, hb, h.cnt⟩
theorem HJ.small (h : HJ w0 w xb p F c q L t u ep A cA l B cB i now) (hi : i ≤ 40) {now1 : Int} (h0 : now ≤ now1) (h1 : now1 ≤ now + 31) : Small now1 u ep l L := by
  have hu := load_up h0 h1 L
  have ht := tri_le i hi
  obtain ⟨c1, ⟨c2, c3⟩, c4, c5⟩ := h.cnt
  refine ⟨by omega, ⟨c2, by omega⟩, by omega, by omega⟩
theorem HJ.us (h : HJ w0 w xb p F c q L t u ep A cA l B cB i now) (hi : i ≤ 40) : u ≤ 80000 ∧ l.length ≤ 1000 := by
  have ht := tri_le i hi
  obtain ⟨c1, ⟨c2, c3⟩, c4, c5⟩ := h.cnt
  omega
theorem HJ.next {F' : Nat → Prop} {q' : ByteArray → Option Ho} {L' : List (Ev ByteArray)} {t' u' : Nat} {ep' : Int} {A' : Option Addr} {cA' : Nat} {l' : List Oe} {B' : Option Addr} {cB' : Nat} (h : HJ w0 w xb p F c q L t u ep A cA l B cB i now) {now1 : Int} (h0 : now ≤ now1) (h1 : now1 ≤ now + 31) (h2 : 0 ≤ now1) (h3 : now1 ≤ 1099511627776)
    (hb : Bo w3 p F' c q' L' t' u' ep' A' cA' l' B' cB') (hs : Step F w w3) (hn : ∀ k, F' k → F k ∨ w.heap.size ≤ k) (hA : ∀ k, blockOf A' = some k → blockOf A = some k ∨ w.heap.size ≤ k) (hB : ∀ k, blockOf B' = some k → blockOf B = some k ∨ w.heap.size ≤ k) (hG : Grow now1 u ep l L u' ep' l' L')
    (hx : Blk w4 xb 60 (Xc c A' l'.length cA' B' L'.length cB' ep')) (hs4 : Step (· = xb) w3 w4) : HJ w0 w4 xb p F' c q' L' t' u' ep' A' cA' l' B' cB' (i + 1) now1 := by
  have hl := h.xx.lt
  have hz := h.bel.size
  have hF : ¬ F' xb := fun hk => (hn xb hk).elim h.sep.1 (fun h => by omega)
  have hAx : ∀ k, blockOf A' = some k → k ≠ xb := fun k hk e => (hA k hk).elim (fun h' => h.sep.2.1 k h' e) (fun h => by omega)
  have hBx : ∀ k, blockOf B' = some k → k ≠ xb := fun k hk e => (hB k hk).elim (fun h' => h.sep.2.2 k h' e) (fun h => by omega)
  have hu := load_up h0 h1 L
  obtain ⟨c1, ⟨c2, c3⟩, c4, c5⟩ := h.cnt
  obtain ⟨g1, ⟨g2, g3⟩, g4, g5, g6⟩ := hG
  obtain ⟨g7, g8⟩ := g6 h3 h2
  have ht : tri (i + 1) = tri i + i := rfl
  refine ⟨hb.keep hs4 (fun k hk e => hF (by subst e; exact hk)) (fun k hk e => hAx k hk e) (fun k hk e => hBx k hk e), hx, ⟨fun k hk => (hn k hk).elim (h.low.1 k) (fun h => by omega), h.low.2⟩, ⟨hF, hAx, hBx⟩, ?_, by omega, ⟨g2, by omega⟩, by omega, by omega⟩
  have b3 := h.bel.trans (hs.below hz h.low.1)
  exact b3.trans (hs4.below (by have := hs.size; omega) (fun k hk => by have := h.low.2; omega))
end
/-- Ahead of the first call. -/
theorem hj_new {w0 w : World} {xb p : Nat} {F : Nat → Prop} {c : Cf} (hI : HeR w p F c (fun _ => none) [] 0 0 0) (hX : Blk w xb 60 (Xc c none 0 0 none 0 0 0)) (hF : ∀ k, F k → w0.heap.size ≤ k) (hl : w0.heap.size ≤ xb) (hx : ¬ F xb) (hs : Step (fun _ => False) w0 w) (now : Int) : HJ w0 w xb p F c (fun _ => none) [] 0 0 0 none 0 [] none 0 0 now :=
  ⟨⟨hI, rseg_nil _ _ _, rseg_nil _ _ _, Nat.le_refl _, mt_nil, ⟨fun k hk => (by cases hk), fun k hk => (by cases hk)⟩, ⟨fun k hk => (by cases hk), fun k hk => (by cases hk)⟩, ⟨_, aj_new c⟩, fun s h => (by cases h), fun e h => (by cases h)⟩, hX, ⟨hF, hl⟩, ⟨hx, fun k hk => (by cases hk), fun k hk => (by cases hk)⟩, hs.below (Nat.le_refl _) (fun _ h => h.elim), Nat.le_refl _, ⟨Int.le_refl _, by have h : Hea.load now ([] : List (Ev ByteArray)) = 0 := rfl; rw [h]; decide⟩, Nat.le_refl _, Nat.le_refl _⟩
theorem Step.setCell7 {w w' : World} {b : Nat} (h : Step (fun _ => False) w w') (hb : b < w.heap.size → False) (b0 b1 b2 b3 b4 b5 b6 : Value) : Step (fun _ => False) w (((((((w'.setCell ⟨b, 0, none⟩ b0).setCell ⟨b, 1, none⟩ b1).setCell ⟨b, 2, none⟩ b2).setCell ⟨b, 3, none⟩ b3).setCell ⟨b, 4, none⟩ b4).setCell ⟨b, 5, none⟩ b5).setCell ⟨b, 6, none⟩ b6) :=
  ((((((h.setCell (p := ⟨b, 0, none⟩) hb b0).setCell (p := ⟨b, 1, none⟩) hb b1).setCell (p := ⟨b, 2, none⟩) hb b2).setCell (p := ⟨b, 3, none⟩) hb b3).setCell (p := ⟨b, 4, none⟩) hb b4).setCell (p := ⟨b, 5, none⟩) hb b5).setCell (p := ⟨b, 6, none⟩) hb b6
end Go.Proofs.Ytghiklaeenhljaa.HeD
