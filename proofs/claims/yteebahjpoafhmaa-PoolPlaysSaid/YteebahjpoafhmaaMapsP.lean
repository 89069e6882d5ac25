/- Maps from strings to whole numbers and to bools, as functions; names that are cut. Own work of this seat; no condition. -/
import Derived.Test.YteebahjpoafhmaaAct
import Derived.Maps.OwnOps
import Derived.Maps.OwnSet
import Derived.Maps.Views
namespace Go.Proofs.Yteebahjpoafhmaa.Kit
open Go.RowKit Go.Maps Go.ChangeMaps
set_option linter.unusedVariables false
set_option linter.unusedSimpArgs false

def slit (s : ByteArray) : Lit := .string s.data.toList
theorem slit_ne {s t : ByteArray} (h : s ≠ t) : slit s ≠ slit t := by
  intro e
  apply h
  unfold slit at e
  injection e with e
  cases s with | mk a => cases t with | mk b => cases a; cases b; simp_all
theorem skeyed : Keyed Try.prog 9 := string_keyed Try.underlying9
theorem skey {s : ByteArray} (h : s.size ≤ 1000) : keyOf Try.prog 9 (.string s) = some (slit s) := Go.WideMaps.keyOf_string_mk Try.underlying9 (by unfold maxLen; omega)
theorem szero_int (w : World) : (zeroValue 3).run Try.prog w = .ok (.int .i64 0) w := by kernel_rfl

/-- Block b is a map; under s it has f s (0 where there is none); it was stored into at most n times. -/
def MInt (w : World) (b n : Nat) (f : ByteArray → Int) : Prop :=
  ∃ D : DataW Unit, w.ownsMap Try.prog 9 (plainElem Try.prog 3) b n D ∧ ∀ s, D.atKey (slit s) (.lit (.int .i64 0)) = .lit (.int .i64 (f s))
def mupd (f : ByteArray → Int) (s : ByteArray) (v : Int) : ByteArray → Int := fun t => if t = s then v else f t
theorem mupd_same (f : ByteArray → Int) (s : ByteArray) (v : Int) : mupd f s v s = v := if_pos rfl
theorem mupd_other (f : ByteArray → Int) {s t : ByteArray} (v : Int) (h : t ≠ s) : mupd f s v t = f t := if_neg h
theorem MInt.lt {w : World} {b n : Nat} {f : ByteArray → Int} (h : MInt w b n f) : b < w.heap.size := by obtain ⟨D, hD, _⟩ := h; exact hD.lt
theorem ownsMap_keep {w w' : World} {F : Nat → Prop} {b n : Nat} {D : DataW Unit} {R : Value → Option (DataW Unit × List MemPlace)} (h : w.ownsMap Try.prog 9 R b n D) (hs : Step F w w') (hb : ¬ F b) : w'.ownsMap Try.prog 9 R b n D := by
  have hlt := h.lt
  obtain ⟨es, clock, hb', G, hn, hD⟩ := h
  exact ⟨es, clock, (hs.block b hlt hb).trans hb', G, hn, hD⟩
theorem MInt.keep {w w' : World} {F : Nat → Prop} {b n : Nat} {f : ByteArray → Int} (h : MInt w b n f) (hs : Step F w w') (hb : ¬ F b) : MInt w' b n f := by
  obtain ⟨D, hD, hf⟩ := h
  exact ⟨D, ownsMap_keep hD hs hb, hf⟩
theorem mint_new (w : World) : MInt (w.alloc (.map #[] 0)) w.heap.size 0 (fun _ => 0) := ⟨_, World.ownsMap_made _ _ _ _, fun s => rfl⟩
theorem step_of_grown_some {w w' : World} {b : Nat} (h : w.grownBy w' (some b)) : Step (· = b) w w' := Step.of_grown h (fun k e _ => (Option.some.inj e).symm)

section
variable {ops : Array Oper} {rest : List Oper} {o : Oper} {a : Act} {Q : Exit → Act → World → Prop} {w : World}
theorem wpList_mint_look (hg : o.guard = none) (m x : Operand) (hop : o.op = Op.lookup 46 m x false) {b n : Nat} {f : ByteArray → Int} (h : MInt w b n f) {s : ByteArray} (hs : s.size ≤ 1000) (hm : a.eval m = .map (some b)) (hx : a.eval x = .string s)
    (hK : wpList Try.prog ops Q rest (a.put o.dst (.int .i64 (f s))) w) : wpList Try.prog ops Q (o :: rest) a w := by
  obtain ⟨D, hD, hf⟩ := h
  refine wpList_lookup_own_int w hg m x 46 hop 9 3 .i64 skeyed Try.underlying46 Try.underlying3 (szero_int _) b n D hm hD _ _ hx (skey hs) ?_
  intro c hat _
  rw [hf s] at hat
  injection hat with hat
  injection hat with _ hat
  subst hat
  exact hK
theorem wpList_mint_put (hg : o.guard = none) (m x v : Operand) (hop : o.op = Op.mapUpdate 46 m x v) {b n : Nat} {f : ByteArray → Int} (h : MInt w b n f) (hn : n ≤ 1000000) {s : ByteArray} (hs : s.size ≤ 1000) {i : Int} (h0 : -9223372036854775808 ≤ i) (h1 : i ≤ 9223372036854775807) (hm : a.eval m = .map (some b)) (hx : a.eval x = .string s) (hv : a.eval v = .int .i64 i)
    (hK : ∀ w', MInt w' b (n + 1) (mupd f s i) → Step (· = b) w w' → wpList Try.prog ops Q rest (a.put o.dst undef) w') : wpList Try.prog ops Q (o :: rest) a w := by
  obtain ⟨D, hD, hf⟩ := h
  refine wpList_mapUpdate_own w hg m x v 46 hop 9 3 skeyed Try.underlying46 _ b n D hm hD (by unfold maxLen; omega) _ _ (slit s) hx hv (skey hs) _ [] (plainElem_int Try.underlying3 (WalkArith.wf_i64 ⟨h0, h1⟩)) ?_
  intro w' hown hgr
  refine hK w' ⟨_, hown, fun t => ?_⟩ (step_of_grown_some hgr)
  by_cases e : t = s
  · subst e
    rw [mupd_same, atKey_put_same hD.isMap (show WideAt.IsKeyLit (slit _) from trivial)]
  · rw [mupd_other f i e, atKey_put_other (slit_ne e), hf t]
end


set_option maxRecDepth 100000 in
theorem mint_run {w : World} {b n : Nat} {f : ByteArray → Int} (h : MInt w b n f) {s : ByteArray} (hs : s.size ≤ 1000) : (Instr.lookup 46 (.map (some b)) (.string s) false).run Try.prog w = .ok (.int .i64 (f s)) w := by
  obtain ⟨D, hD, hf⟩ := h
  obtain ⟨c, hrun, hat, _⟩ := hD.lookup_int skeyed Try.underlying46 Try.underlying3 (szero_int _) (skey hs)
  rw [hf s] at hat
  injection hat with hat
  injection hat with _ hat
  rw [hrun, hat]

theorem szero_bool (w : World) : (zeroValue 4).run Try.prog w = .ok (.bool false) w := by kernel_rfl
theorem plainElem_bool_inv {P : Program} {e : TypeId} (he : P.underlying e = some .bool) {v : Value} {z : DataW Unit × List MemPlace} (h : plainElem P e v = some z) : ∃ a, v = .bool a ∧ z = (.lit (.bool a), []) := by
  unfold plainElem at h
  rw [he] at h
  cases v <;> simp at h
  exact ⟨_, rfl, h.symm⟩
/-- Block b is a map; under s it has f s (false where there is none); it was stored into at most n times. -/
def MBool (w : World) (b n : Nat) (f : ByteArray → Bool) : Prop :=
  ∃ D : DataW Unit, w.ownsMap Try.prog 9 (plainElem Try.prog 4) b n D ∧ ∀ s, D.atKey (slit s) (.lit (.bool false)) = .lit (.bool (f s))
def bupd (f : ByteArray → Bool) (s : ByteArray) (v : Bool) : ByteArray → Bool := fun t => if t = s then v else f t
theorem bupd_same (f : ByteArray → Bool) (s : ByteArray) (v : Bool) : bupd f s v s = v := if_pos rfl
theorem bupd_other (f : ByteArray → Bool) {s t : ByteArray} (v : Bool) (h : t ≠ s) : bupd f s v t = f t := if_neg h
theorem MBool.lt {w : World} {b n : Nat} {f : ByteArray → Bool} (h : MBool w b n f) : b < w.heap.size := by obtain ⟨D, hD, _⟩ := h; exact hD.lt
theorem MBool.keep {w w' : World} {F : Nat → Prop} {b n : Nat} {f : ByteArray → Bool} (h : MBool w b n f) (hs : Step F w w') (hb : ¬ F b) : MBool w' b n f := by
  obtain ⟨D, hD, hf⟩ := h
  exact ⟨D, ownsMap_keep hD hs hb, hf⟩
theorem mbool_new (w : World) : MBool (w.alloc (.map #[] 0)) w.heap.size 0 (fun _ => false) := ⟨_, World.ownsMap_made _ _ _ _, fun s => rfl⟩
theorem mbool_run {w : World} {b n : Nat} {f : ByteArray → Bool} (h : MBool w b n f) {s : ByteArray} (hs : s.size ≤ 1000) : (Instr.lookup 42 (.map (some b)) (.string s) false).run Try.prog w = .ok (.bool (f s)) w := by
  obtain ⟨D, hD, hf⟩ := h
  obtain ⟨v, ps, hrun, hv⟩ := hD.lookup skeyed Try.underlying42 (szero_bool _) (plainElem_bool Try.underlying4 false) (skey hs)
  obtain ⟨c, rfl, hc⟩ := plainElem_bool_inv Try.underlying4 hv
  rw [hf s] at hc
  injection hc with hc _
  injection hc with hc
  injection hc with hc
  rw [hrun, hc]
section
variable {ops : Array Oper} {rest : List Oper} {o : Oper} {a : Act} {Q : Exit → Act → World → Prop} {w : World}
theorem wpList_mbool_put (hg : o.guard = none) (m x v : Operand) (hop : o.op = Op.mapUpdate 42 m x v) {b n : Nat} {f : ByteArray → Bool} (h : MBool w b n f) (hn : n ≤ 1000000) {s : ByteArray} (hs : s.size ≤ 1000) {i : Bool} (hm : a.eval m = .map (some b)) (hx : a.eval x = .string s) (hv : a.eval v = .bool i)
    (hK : ∀ w', MBool w' b (n + 1) (bupd f s i) → Step (· = b) w w' → wpList Try.prog ops Q rest (a.put o.dst undef) w') : wpList Try.prog ops Q (o :: rest) a w := by
  obtain ⟨D, hD, hf⟩ := h
  refine wpList_mapUpdate_own w hg m x v 42 hop 9 4 skeyed Try.underlying42 _ b n D hm hD (by unfold maxLen; omega) _ _ (slit s) hx hv (skey hs) _ [] (plainElem_bool Try.underlying4 i) ?_
  intro w' hown hgr
  refine hK w' ⟨_, hown, fun t => ?_⟩ (step_of_grown_some hgr)
  by_cases e : t = s
  · subst e
    rw [bupd_same, atKey_put_same hD.isMap (show WideAt.IsKeyLit (slit _) from trivial)]
  · rw [bupd_other f i e, atKey_put_other (slit_ne e), hf t]
end
end Go.Proofs.Yteebahjpoafhmaa.Kit
namespace Go.Proofs.Yteebahjpoafhmaa.Pool
open Go.RowKit Go.Proofs.Yteebahjpoafhmaa.Kit Go.Proofs.Yteebahjpoafhmaa.PPoolPlays
theorem cut_short (s : ByteArray) : ∃ r : ByteArray, r.size ≤ 40 ∧ ∀ w : World, Calls Try.prog 9 #[.string s, .int .i64 40] w fun e w' => e = .returned (.string r) ∧ Step (fun _ => False) w w' := by
  obtain ⟨r, hr⟩ := cut_some s
  refine ⟨r, ?_, fun w => (stewardlaw01_Cut.calls s 40 r w hr).mono fun e w' h => ⟨h.1, step_drawn h.2⟩⟩
  unfold stewardlaw01_Cut.f at hr
  by_cases h : (s.size : Int) > 40
  · rw [if_pos h, if_pos (by omega), if_pos (by omega)] at hr
    obtain rfl := Option.some.inj hr
    rw [ByteArray.size_extract]
    have : (40 : Int).toNat = 40 := rfl
    omega
  · rw [if_neg h] at hr
    obtain rfl := Option.some.inj hr
    omega
end Go.Proofs.Yteebahjpoafhmaa.Pool
