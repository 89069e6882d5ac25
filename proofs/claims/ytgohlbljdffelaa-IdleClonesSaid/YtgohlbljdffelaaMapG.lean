/- Maps of any elements, as functions of the key: made, read, written, struck, counted. Own work of this seat; no condition. -/
import Derived.Test.YtgohlbljdffelaaKit
import Derived.Maps.OwnOps
import Derived.Maps.OwnSet
import Derived.Maps.Views
namespace Go.Proofs.Ytgohlbljdffelaa.Kit
open Go.RowKit Go.Maps Go.ChangeMaps
set_option linter.unusedVariables false
set_option linter.unusedSimpArgs false

def anyElem (v : Value) : Option (DataW Value × List MemPlace) := some (.held v, [])
/-- Block b is a map of m entries; under k it has f k; it was stored into at most n times. -/
def MG (P : Program) (K : TypeId) (w : World) (b n m : Nat) (f : Lit → Option Value) : Prop :=
  ∃ D : DataW Value, w.ownsMap P K anyElem b n D ∧ Maps.size D = m ∧ ∀ k, WideAt.IsKeyLit k → Maps.has D k = (f k).isSome ∧ ∀ z, D.atKey k (.held z) = .held ((f k).getD z)
def putF (f : Lit → Option Value) (k : Lit) (v : Value) : Lit → Option Value := fun j => if j.sameKey k then some v else f j
def delF (f : Lit → Option Value) (k : Lit) : Lit → Option Value := fun j => if j.sameKey k then none else f j
theorem sameKey_self {k : Lit} (h : WideAt.IsKeyLit k) : k.sameKey k = true := by
  cases k <;> first | (simp [Lit.sameKey]; done) | exact absurd h id
section
variable {P : Program} {K : TypeId} {w w' : World} {b n m : Nat} {f g : Lit → Option Value} {F : Nat → Prop}
theorem MG.lt (h : MG P K w b n m f) : b < w.heap.size := by obtain ⟨D, hD, _⟩ := h; exact hD.lt
theorem MG.keep (h : MG P K w b n m f) (hs : Step F w w') (hb : ¬ F b) : MG P K w' b n m f := by
  obtain ⟨D, hD, hf⟩ := h
  refine ⟨D, ?_, hf⟩
  have hlt := hD.lt
  obtain ⟨es, clock, hb', G, hn, hD⟩ := hD
  exact ⟨es, clock, (hs.block b hlt hb).trans hb', G, hn, hD⟩
theorem MG.mono (h : MG P K w b n m f) {n' : Nat} (hn : n ≤ n') : MG P K w b n' m f := by
  obtain ⟨D, hD, hf⟩ := h
  exact ⟨D, hD.mono hn, hf⟩
theorem MG.ext (h : MG P K w b n m f) (e : ∀ k, WideAt.IsKeyLit k → g k = f k) : MG P K w b n m g := by
  obtain ⟨D, hD, hm, hf⟩ := h
  exact ⟨D, hD, hm, fun k hk => by rw [e k hk]; exact hf k hk⟩
theorem MG.size_le (h : MG P K w b n m f) : m ≤ n := by
  obtain ⟨D, hD, rfl, hf⟩ := h
  exact hD.size_le
theorem mg_new (P : Program) (K : TypeId) (w : World) : MG P K (w.alloc (.map #[] 0)) w.heap.size 0 0 (fun _ => none) :=
  ⟨_, World.ownsMap_made _ _ _ _, rfl, fun k hk => ⟨rfl, fun z => rfl⟩⟩
theorem step_of_grown_some {w w' : World} {b : Nat} (h : w.grownBy w' (some b)) : Step (· = b) w w' := Step.of_grown h (fun k e _ => (Option.some.inj e).symm)

theorem MG.look {t e : TypeId} (h : MG P K w b n m f) (L : Keyed P K) (ht : P.underlying t = some (.map K e)) {z : Value} (hz : (zeroValue e).run P w = .ok z w) {key : Value} {kl : Lit} (hl : WideAt.IsKeyLit kl) (hkey : keyOf P K key = some kl) :
    (Instr.lookup t (.map (some b)) key false).run P w = .ok ((f kl).getD z) w := by
  obtain ⟨D, hD, _, hf⟩ := h
  obtain ⟨v, ps, hrun, hv⟩ := hD.lookup L ht hz (zd := .held z) (zp := []) rfl hkey
  rw [(hf kl hl).2 z] at hv
  unfold anyElem at hv
  injection hv with hv
  injection hv with hv _
  injection hv with hv
  rw [hrun, hv]
theorem MG.look_ok {t e : TypeId} (h : MG P K w b n m f) (L : Keyed P K) (ht : P.underlying t = some (.map K e)) {z : Value} (hz : (zeroValue e).run P w = .ok z w) {key : Value} {kl : Lit} (hl : WideAt.IsKeyLit kl) (hkey : keyOf P K key = some kl) :
    (Instr.lookup t (.map (some b)) key true).run P w = .ok (.tuple #[(f kl).getD z, .bool (f kl).isSome]) w := by
  obtain ⟨D, hD, _, hf⟩ := h
  obtain ⟨v, ps, hrun, hv⟩ := hD.look_ok L ht hz (zd := .held z) (zp := []) rfl hkey
  rw [(hf kl hl).2 z] at hv
  unfold anyElem at hv
  injection hv with hv
  injection hv with hv _
  injection hv with hv
  rw [hrun, hv, (hf kl hl).1]
theorem MG.len {t e : TypeId} (h : MG P K w b n m f) (ht : P.underlying t = some (.map K e)) (ty : TypeId) : (Builtin.len_ #[t] ty #[.map (some b)]).run P w = .ok (.int .i64 m) w := by
  obtain ⟨D, hD, rfl, hf⟩ := h
  exact hD.len ht ty
theorem MG.put {t e : TypeId} (h : MG P K w b n m f) (L : Keyed P K) (ht : P.underlying t = some (.map K e)) (hn : n ≤ 1000000) {key : Value} (val : Value) {kl : Lit} (hl : WideAt.IsKeyLit kl) (hkey : keyOf P K key = some kl) :
    ∃ w', (Instr.mapUpdate t (.map (some b)) key val).run P w = .ok () w' ∧ MG P K w' b (n + 1) (if (f kl).isSome then m else m + 1) (putF f kl val) ∧ Step (· = b) w w' := by
  obtain ⟨D, hD, hm, hf⟩ := h
  obtain ⟨w', hr, h1, h2⟩ := hD.update L ht (by unfold maxLen; omega) hkey (val := val) (d := .held val) (ps := []) rfl
  refine ⟨w', hr, ⟨_, h1, ?_, fun k hk => ?_⟩, step_of_grown_some h2⟩
  · rw [size_put (hD.tidy L), (hf kl hl).1, hm]
  · unfold putF
    by_cases e : k = kl
    · subst e
      rw [if_pos (sameKey_self hl)]
      exact ⟨has_put_same hD.isMap hl _, fun z => by rw [atKey_put_same hD.isMap hl]; rfl⟩
    · rw [if_neg (by rw [sameKey_ne e]; simp)]
      exact ⟨by rw [has_put_other e]; exact (hf k hk).1, fun z => by rw [atKey_put_other e]; exact (hf k hk).2 z⟩
theorem MG.drop {t e : TypeId} (h : MG P K w b n m f) (L : Keyed P K) (ht : P.underlying t = some (.map K e)) {key : Value} {kl : Lit} (hl : WideAt.IsKeyLit kl) (hkey : keyOf P K key = some kl) (ty : TypeId) :
    ∃ w', (Builtin.delete_ #[t, K] ty #[.map (some b), key]).run P w = .ok (.tuple #[]) w' ∧ MG P K w' b n (if (f kl).isSome then m - 1 else m) (delF f kl) ∧ Step (· = b) w w' := by
  obtain ⟨D, hD, hm, hf⟩ := h
  obtain ⟨w', hr, h1, h2⟩ := hD.drop L ht hkey ty
  refine ⟨w', hr, ⟨_, h1, ?_, fun k hk => ?_⟩, step_of_grown_some h2.grown⟩
  · have := size_del (k := kl) (hD.tidy L)
    rw [(hf kl hl).1, hm] at this
    split <;> simp_all <;> omega
  · unfold delF
    by_cases e : k = kl
    · subst e
      rw [if_pos (sameKey_self hl)]
      exact ⟨has_del_same, fun z => by rw [atKey_del_same]; rfl⟩
    · rw [if_neg (by rw [sameKey_ne e]; simp)]
      exact ⟨by rw [has_del_other e]; exact (hf k hk).1, fun z => by rw [atKey_del_other e]; exact (hf k hk).2 z⟩
end
section
variable {P : Program} {K : TypeId} {b n m : Nat} {f : Lit → Option Value} {ops : Array Oper} {rest : List Oper} {o : Oper} {a : Act} {Q : Exit → Act → World → Prop} {w : World}
theorem wpList_mg_put (hg : o.guard = none) (mo x v : Operand) (t : TypeId) (hop : o.op = Op.mapUpdate t mo x v) {e : TypeId} (h : MG P K w b n m f) (L : Keyed P K) (ht : P.underlying t = some (.map K e)) (hn : n ≤ 1000000) {key val : Value} {kl : Lit} (hl : WideAt.IsKeyLit kl) (hkey : keyOf P K key = some kl)
    (hm : a.eval mo = .map (some b)) (hx : a.eval x = key) (hv : a.eval v = val)
    (hK : ∀ w', MG P K w' b (n + 1) (if (f kl).isSome then m else m + 1) (putF f kl val) → Step (· = b) w w' → wpList P ops Q rest (a.put o.dst undef) w') : wpList P ops Q (o :: rest) a w := by
  refine wpList_plain hg fun K' hK' => ?_
  obtain ⟨w', hrun, r1, r2⟩ := h.put L ht hn val hl hkey
  unfold Oper.wp
  simp [execOp, hop, hm, hx, hv, hrun, Result.andThen]
  exact hK' _ _ (hK w' r1 r2)
theorem wpList_mg_drop (hg : o.guard = none) (mo x : Operand) (t : TypeId) (hop : o.op = Op.call { callee := Callee.builtin Builtin.delete, args := #[mo, x], argTypes := #[t, K] }) {e : TypeId} (h : MG P K w b n m f) (L : Keyed P K) (ht : P.underlying t = some (.map K e)) {key : Value} {kl : Lit} (hl : WideAt.IsKeyLit kl) (hkey : keyOf P K key = some kl)
    (hm : a.eval mo = .map (some b)) (hx : a.eval x = key)
    (hK : ∀ w', MG P K w' b n (if (f kl).isSome then m - 1 else m) (delF f kl) → Step (· = b) w w' → wpList P ops Q rest (a.put o.dst (.tuple #[])) w') : wpList P ops Q (o :: rest) a w := by
  refine wpList_plain hg fun K' hK' => ?_
  obtain ⟨w', hrun, r1, r2⟩ := h.drop L ht hl hkey o.type
  unfold Oper.wp
  simp [execOp, hop, resolve, invoke, builtin, hm, hx, hrun, Result.andThen]
  exact hK' _ _ (hK w' r1 r2)
end

/-! ### keys -/
def slit (s : ByteArray) : Lit := .string s.data.toList
theorem slit_inj {s t : ByteArray} (e : slit s = slit t) : s = t := by
  unfold slit at e
  injection e with e
  cases s with | mk a => cases t with | mk b => cases a; cases b; simp_all
theorem skey {P : Program} {K : TypeId} (hK : P.underlying K = some .string) {s : ByteArray} (h : s.size ≤ 1000000) : keyOf P K (.string s) = some (slit s) := Go.WideMaps.keyOf_string_mk hK (by unfold maxLen; omega)
def ilit (n : Int) : Lit := .int .i64 n
theorem ilit_inj {s t : Int} (e : ilit s = ilit t) : s = t := by
  unfold ilit at e
  injection e with _ e
theorem ikey {P : Program} {K : TypeId} (hK : P.underlying K = some (.int .i64)) {n : Int} (h0 : -9223372036854775808 ≤ n) (h1 : n ≤ 9223372036854775807) : keyOf P K (.int .i64 n) = some (ilit n) := Go.Maps.keyOf_int_mk hK (WalkArith.wf_i64 ⟨h0, h1⟩)
theorem slit_ok (s : ByteArray) : WideAt.IsKeyLit (slit s) := trivial
theorem ilit_ok (s : Int) : WideAt.IsKeyLit (ilit s) := trivial
end Go.Proofs.Ytgohlbljdffelaa.Kit
