/- A map from strings to whole numbers as a function; a set of strings as a function. Own work of this seat; no condition. -/
import Derived.Test.YtlmppdpjjkdoaabSegs
import Derived.Maps.OwnOps
import Derived.Maps.OwnSet
import Derived.Maps.Views
import Derived.Test.YtlmppdpjjkdoaabProg
namespace Go.Proofs.Ytlmppdpjjkdoaab.Kit
open Go.RowKit Go.Maps Go.ChangeMaps
set_option linter.unusedVariables false
set_option linter.unusedSimpArgs false

def slit (s : ByteArray) : Lit := .string s.data.toList
theorem slit_ne {s t : ByteArray} (h : s ≠ t) : slit s ≠ slit t := by
  intro e
  apply h
  unfold slit at e
  injection e with e
  cases s with | mk a => cases t with | mk b => cases a; cases b; simp_all
theorem skeyed : Keyed Try.prog 9 := string_keyed Try.underlying9
theorem skey {s : ByteArray} (h : s.size ≤ 1000) : keyOf Try.prog 9 (.string s) = some (slit s) := Go.WideMaps.keyOf_string_mk Try.underlying9 (by unfold maxLen; omega)
theorem szero_int (w : World) : (zeroValue 3).run Try.prog w = .ok (.int .i64 0) w := by kernel_rfl
theorem szero_unit (w : World) : (zeroValue 93).run Try.prog w = .ok (.agg #[]) w := by kernel_rfl

/-- Block b is a map; under s it has f s (0 where there is none); it was stored into at most n times. -/
def MInt (w : World) (b n : Nat) (f : ByteArray → Int) : Prop :=
  ∃ D : DataW Unit, w.ownsMap Try.prog 9 (plainElem Try.prog 3) b n D ∧ ∀ s, D.atKey (slit s) (.lit (.int .i64 0)) = .lit (.int .i64 (f s))
def upd (f : ByteArray → Int) (s : ByteArray) (v : Int) : ByteArray → Int := fun t => if t = s then v else f t
theorem upd_same (f : ByteArray → Int) (s : ByteArray) (v : Int) : upd f s v s = v := if_pos rfl
theorem upd_other (f : ByteArray → Int) {s t : ByteArray} (v : Int) (h : t ≠ s) : upd f s v t = f t := if_neg h
theorem MInt.lt {w : World} {b n : Nat} {f : ByteArray → Int} (h : MInt w b n f) : b < w.heap.size := by obtain ⟨D, hD, _⟩ := h; exact hD.lt
theorem ownsMap_keep {w w' : World} {F : Nat → Prop} {b n : Nat} {D : DataW Unit} {R : Value → Option (DataW Unit × List MemPlace)} (h : w.ownsMap Try.prog 9 R b n D) (hs : Step F w w') (hb : ¬ F b) : w'.ownsMap Try.prog 9 R b n D := by
  have hlt := h.lt
  obtain ⟨es, clock, hb', G, hn, hD⟩ := h
  exact ⟨es, clock, (hs.block b hlt hb).trans hb', G, hn, hD⟩
theorem MInt.keep {w w' : World} {F : Nat → Prop} {b n : Nat} {f : ByteArray → Int} (h : MInt w b n f) (hs : Step F w w') (hb : ¬ F b) : MInt w' b n f := by
  obtain ⟨D, hD, hf⟩ := h
  exact ⟨D, ownsMap_keep hD hs hb, hf⟩
theorem mint_new (w : World) : MInt (w.alloc (.map #[] 0)) w.heap.size 0 (fun _ => 0) := ⟨_, World.ownsMap_made _ _ _ _, fun s => rfl⟩
theorem step_of_grown_some {w w' : World} {b : Nat} (h : w.grownBy w' (some b)) : Step (· = b) w w' := Step.of_grown h (fun k e _ => (Option.some.inj e).symm)

section
variable {ops : Array Oper} {rest : List Oper} {o : Oper} {a : Act} {Q : Exit → Act → World → Prop} {w : World}
theorem wpList_mint_look (hg : o.guard = none) (m x : Operand) (hop : o.op = Op.lookup 68 m x false) {b n : Nat} {f : ByteArray → Int} (h : MInt w b n f) {s : ByteArray} (hs : s.size ≤ 1000) (hm : a.eval m = .map (some b)) (hx : a.eval x = .string s)
    (hK : wpList Try.prog ops Q rest (a.put o.dst (.int .i64 (f s))) w) : wpList Try.prog ops Q (o :: rest) a w := by
  obtain ⟨D, hD, hf⟩ := h
  refine wpList_lookup_own_int w hg m x 68 hop 9 3 .i64 skeyed Try.underlying68 Try.underlying3 (szero_int _) b n D hm hD _ _ hx (skey hs) ?_
  intro c hat _
  rw [hf s] at hat
  injection hat with hat
  injection hat with _ hat
  subst hat
  exact hK
theorem wpList_mint_put (hg : o.guard = none) (m x v : Operand) (hop : o.op = Op.mapUpdate 68 m x v) {b n : Nat} {f : ByteArray → Int} (h : MInt w b n f) (hn : n ≤ 1000000) {s : ByteArray} (hs : s.size ≤ 1000) {i : Int} (h0 : -9223372036854775808 ≤ i) (h1 : i ≤ 9223372036854775807) (hm : a.eval m = .map (some b)) (hx : a.eval x = .string s) (hv : a.eval v = .int .i64 i)
    (hK : ∀ w', MInt w' b (n + 1) (upd f s i) → Step (· = b) w w' → wpList Try.prog ops Q rest (a.put o.dst undef) w') : wpList Try.prog ops Q (o :: rest) a w := by
  obtain ⟨D, hD, hf⟩ := h
  refine wpList_mapUpdate_own w hg m x v 68 hop 9 3 skeyed Try.underlying68 _ b n D hm hD (by unfold maxLen; omega) _ _ (slit s) hx hv (skey hs) _ [] (plainElem_int Try.underlying3 (WalkArith.wf_i64 ⟨h0, h1⟩)) ?_
  intro w' hown hgr
  refine hK w' ⟨_, hown, fun t => ?_⟩ (step_of_grown_some hgr)
  by_cases e : t = s
  · subst e
    rw [upd_same, atKey_put_same hD.isMap (show WideAt.IsKeyLit (slit _) from trivial)]
  · rw [upd_other f i e, atKey_put_other (slit_ne e), hf t]
end

/-- Block b is a set; s is in it just if g s. -/
def MSet (w : World) (b n : Nat) (g : ByteArray → Bool) : Prop :=
  ∃ D : DataW Unit, w.ownsMap Try.prog 9 unitElem b n D ∧ ∀ s, Maps.has D (slit s) = g s
theorem MSet.lt {w : World} {b n : Nat} {g : ByteArray → Bool} (h : MSet w b n g) : b < w.heap.size := by obtain ⟨D, hD, _⟩ := h; exact hD.lt
theorem MSet.keep {w w' : World} {F : Nat → Prop} {b n : Nat} {g : ByteArray → Bool} (h : MSet w b n g) (hs : Step F w w') (hb : ¬ F b) : MSet w' b n g := by
  obtain ⟨D, hD, hf⟩ := h
  exact ⟨D, ownsMap_keep hD hs hb, hf⟩
theorem mset_new (w : World) : MSet (w.alloc (.map #[] 0)) w.heap.size 0 (fun _ => false) := ⟨_, World.ownsMap_made _ _ _ _, fun s => rfl⟩
section
variable {ops : Array Oper} {rest : List Oper} {o : Oper} {a : Act} {Q : Exit → Act → World → Prop} {w : World}
theorem wpList_mset_look (hg : o.guard = none) (m x : Operand) (hop : o.op = Op.lookup 91 m x true) {b n : Nat} {g : ByteArray → Bool} (h : MSet w b n g) {s : ByteArray} (hs : s.size ≤ 1000) (hm : a.eval m = .map (some b)) (hx : a.eval x = .string s)
    (hK : wpList Try.prog ops Q rest (a.put o.dst (.tuple #[.agg #[], .bool (g s)])) w) : wpList Try.prog ops Q (o :: rest) a w := by
  obtain ⟨D, hD, hf⟩ := h
  refine wpList_lookup_own_unit w hg m x 91 hop 9 93 skeyed Try.underlying91 (szero_unit _) b n D hm hD _ _ hx (skey hs) ?_
  rw [hf s]
  exact hK
theorem wpList_mset_put (hg : o.guard = none) (m x v : Operand) (hop : o.op = Op.mapUpdate 91 m x v) {b n : Nat} {g : ByteArray → Bool} (h : MSet w b n g) (hn : n ≤ 1000000) {s : ByteArray} (hs : s.size ≤ 1000) (hm : a.eval m = .map (some b)) (hx : a.eval x = .string s) (hv : a.eval v = .agg #[])
    (hK : ∀ w', MSet w' b (n + 1) (fun t => decide (t = s) || g t) → Step (· = b) w w' → wpList Try.prog ops Q rest (a.put o.dst undef) w') : wpList Try.prog ops Q (o :: rest) a w := by
  obtain ⟨D, hD, hf⟩ := h
  refine wpList_mapUpdate_own w hg m x v 91 hop 9 93 skeyed Try.underlying91 _ b n D hm hD (by unfold maxLen; omega) _ _ (slit s) hx hv (skey hs) _ [] unitElem_mk ?_
  intro w' hown hgr
  refine hK w' ⟨_, hown, fun t => ?_⟩ (step_of_grown_some hgr)
  by_cases e : t = s
  · subst e
    rw [has_put_same hD.isMap (show WideAt.IsKeyLit (slit _) from trivial)]; simp
  · rw [has_put_other (slit_ne e), hf t]; simp [e]
end
end Go.Proofs.Ytlmppdpjjkdoaab.Kit
