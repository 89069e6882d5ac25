/- idle: the connections in memory; New, Len, Of, Drop. Own work of this seat. -/
import Derived.Test.YtgohlbljdffelaaIdlP
namespace Go.Proofs.Ytgohlbljdffelaa.Idl
open Go.RowKit Go.Proofs.Ytgohlbljdffelaa.Kit Go.Proofs.Ytgohlbljdffelaa.AgP Go.Proofs.Ytgohlbljdffelaa.IntS Go.Proofs.Ytgohlbljdffelaa
set_option linter.unusedVariables false
set_option linter.unusedSimpArgs false

theorem mikey {c : Int} (h : AgInt.KOk c) : keyOf Try.prog 3 (.int .i64 c) = some (ilit c) := AgInt.kkey h
theorem mskey {s : ByteArray} (h : s.size ≤ 1000) : keyOf Try.prog 9 (.string s) = some (slit s) := skey Try.underlying9 (by omega)
theorem mik : Go.Maps.Keyed Try.prog 3 := Go.Maps.int_keyed Try.underlying3
theorem msk : Go.Maps.Keyed Try.prog 9 := Go.Maps.string_keyed Try.underlying9
theorem zstr (w : World) : (zeroValue 9).run Try.prog w = .ok (.string ⟨#[]⟩) w := by kernel_rfl
theorem zsl (w : World) : (zeroValue 40).run Try.prog w = .ok (.slice none 0 0) w := by kernel_rfl

/-- The owners' map: under each connection its backend's name. -/
def Fo (f : Lit → Option Value) (l : List On) : Prop := ∀ c, f (ilit c) = (ownF l c).map Value.string
/-- The stacks' map: under each name its connections, where there are any; ro tells where they lie. -/
def Fs (f : Lit → Option Value) (l : List On) (ro : ByteArray → Option Addr × Nat) : Prop := ∀ s, f (slit s) = if stackOf l s = [] then none else some (.slice (ro s).1 (stackOf l s).length (ro s).2)
structure IdX (w : World) (p a MS MO : Nat) (FA : Nat → Prop) (most life : Int) (l : List On) (L : List (Ev Int)) (ro : ByteArray → Option Addr × Nat) (t n1 n2 m2 : Nat) (fo fs : Lit → Option Value) : Prop where
  blk : Blk w p 85 [.int .i64 most, .int .i64 life, .map (some MS), .map (some MO), .pointer (some ⟨a, 0, none⟩)]
  ag : AgInt.AgR w a FA L t
  pm : L.Perm (evs l)
  mo : MG Try.prog 3 w MO n1 l.length fo
  fo : Fo fo l
  ms : MG Try.prog 9 w MS n2 m2 fs
  fs : Fs fs l ro
  row : ∀ s, stackOf l s ≠ [] → ISeg w (ro s).1 (stackOf l s).length (ro s).2 (stackOf l s)
  sep : ∀ s s' k, stackOf l s ≠ [] → stackOf l s' ≠ [] → blockOf (ro s).1 = some k → blockOf (ro s').1 = some k → s = s'
  rnf : ∀ s k, stackOf l s ≠ [] → blockOf (ro s).1 = some k → ¬ FA k ∧ k ≠ p ∧ k ≠ MS ∧ k ≠ MO
  ne : ¬ FA p ∧ ¬ FA MS ∧ ¬ FA MO ∧ MS ≠ MO ∧ p ≠ MS ∧ p ≠ MO
  cnt : n1 ≤ t ∧ n2 + l.length ≤ 2 * t
  ok : ∀ o ∈ l, o.nm.size ≤ 1000 ∧ AgInt.KOk o.conn
  ndc : (l.map (·.conn)).Nodup
  inc : l.Pairwise (fun x y => x.turn < y.turn)
def ifoot (p MS MO : Nat) (FA : Nat → Prop) (l : List On) (ro : ByteArray → Option Addr × Nat) (k : Nat) : Prop := k = p ∨ k = MS ∨ k = MO ∨ FA k ∨ ∃ s, stackOf l s ≠ [] ∧ blockOf (ro s).1 = some k
/-- At p, owning blocks of F alone, the connections l wait; t is how many were put. -/
def IdR (w : World) (p : Nat) (F : Nat → Prop) (most life : Int) (l : List On) (t : Nat) : Prop :=
  (∀ k, F k → k < w.heap.size) ∧ ∃ a MS MO FA L ro n1 n2 m2 fo fs, IdX w p a MS MO FA most life l L ro t n1 n2 m2 fo fs ∧ ∀ k, ifoot p MS MO FA l ro k → F k
section
variable {w w' : World} {p a MS MO : Nat} {FA F G : Nat → Prop} {most life : Int} {l : List On} {L : List (Ev Int)} {ro : ByteArray → Option Addr × Nat} {t n1 n2 m2 : Nat} {fo fs : Lit → Option Value}
theorem IdX.keep (h : IdX w p a MS MO FA most life l L ro t n1 n2 m2 fo fs) (hs : Step G w w') (hd : ∀ k, ifoot p MS MO FA l ro k → ¬ G k) : IdX w' p a MS MO FA most life l L ro t n1 n2 m2 fo fs :=
  ⟨h.blk.keep hs (hd _ (.inl rfl)), h.ag.keep hs (fun k hk => hd k (.inr (.inr (.inr (.inl hk))))), h.pm, h.mo.keep hs (hd _ (.inr (.inr (.inl rfl)))), h.fo, h.ms.keep hs (hd _ (.inr (.inl rfl))), h.fs, fun s hs' => (h.row s hs').keep hs (fun k hk => hd k (.inr (.inr (.inr (.inr ⟨s, hs', hk⟩))))), h.sep, h.rnf, h.ne, h.cnt, h.ok, h.ndc, h.inc⟩
theorem IdR.keep (h : IdR w p F most life l t) (hs : Step G w w') (hd : ∀ k, F k → ¬ G k) : IdR w' p F most life l t := by
  obtain ⟨h1, a, MS, MO, FA, L, ro, n1, n2, m2, fo, fs, hx, hF⟩ := h
  have := hs.size
  exact ⟨fun k hk => by have := h1 k hk; omega, a, MS, MO, FA, L, ro, n1, n2, m2, fo, fs, hx.keep hs (fun k hk => hd k (hF k hk)), hF⟩
theorem IdR.same (h : IdR w p F most life l t) (hs : Step (fun _ => False) w w') : IdR w' p F most life l t := h.keep hs (fun _ _ h => h)
theorem IdR.nodup (h : IdR w p F most life l t) : (l.map (·.conn)).Nodup := by
  obtain ⟨h1, a, MS, MO, FA, L, ro, n1, n2, m2, fo, fs, hx, hF⟩ := h
  exact hx.ndc
theorem IdR.ok (h : IdR w p F most life l t) : ∀ o ∈ l, o.nm.size ≤ 1000 ∧ AgInt.KOk o.conn := by
  obtain ⟨h1, a, MS, MO, FA, L, ro, n1, n2, m2, fo, fs, hx, hF⟩ := h
  exact hx.ok
theorem IdR.len_le (h : IdR w p F most life l t) : l.length ≤ t := by
  obtain ⟨h1, a, MS, MO, FA, L, ro, n1, n2, m2, fo, fs, hx, hF⟩ := h
  have := hx.ag.len_le
  have e := hx.pm.length_eq
  unfold evs at e
  rw [List.length_map] at e
  omega
theorem stack_le (l : List On) (s : ByteArray) : (stackOf l s).length ≤ l.length := by
  unfold stackOf
  rw [List.length_map]
  exact List.length_filter_le _ _
end

theorem len_calls {w : World} {p : Nat} {F : Nat → Prop} {most life : Int} {l : List On} {t : Nat} (h : IdR w p F most life l t) :
    Calls Try.prog 19 #[.pointer (some ⟨p, 0, none⟩)] w fun e w' => e = .returned (.int .i64 (l.length : Int)) ∧ w = w' := by
  obtain ⟨h1, a, MS, MO, FA, L, ro, n1, n2, m2, fo, fs, hx, hF⟩ := h
  have c3 := hx.blk.cell (i := 3) rfl
  have hl := fun ty => hx.mo.len Try.underlying36 ty
  go_enter Try.func19, Try.ntmps19
  go_wp2
  go_ret
  exact ⟨rfl, rfl⟩

set_option maxRecDepth 100000 in
set_option maxHeartbeats 1000000 in
theorem of_calls {w : World} {p : Nat} {F : Nat → Prop} {most life : Int} {l : List On} {t : Nat} (h : IdR w p F most life l t) (ht : t ≤ 100000) {s : ByteArray} (hs : s.size ≤ 1000) :
    Calls Try.prog 20 #[.pointer (some ⟨p, 0, none⟩), .string s] w fun e w' => ∃ A c, e = .returned (.slice A (stackOf l s).length c) ∧ ISeg w' A (stackOf l s).length c (stackOf l s) ∧ (∀ k, blockOf A = some k → w.heap.size ≤ k) ∧ Step (fun _ => False) w w' := by
  have hll := h.len_le
  have hsl := stack_le l s
  obtain ⟨h1, a, MS, MO, FA, L, ro, n1, n2, m2, fo, fs, hx, hF⟩ := h
  have c2 := hx.blk.cell (i := 2) rfl
  have hlook := hx.ms.look msk Try.underlying83 (zsl w) (slit_ok s) (mskey hs)
  rw [hx.fs s] at hlook
  obtain ⟨A, n, c, hval, hseg, hn⟩ : ∃ A n c, (if stackOf l s = [] then none else some (Value.slice (ro s).1 (stackOf l s).length (ro s).2)).getD (.slice none 0 0) = .slice A n c ∧ ISeg w A n c (stackOf l s) ∧ n = (stackOf l s).length := by
    by_cases e : stackOf l s = []
    · rw [if_pos e, e]
      exact ⟨none, 0, 0, rfl, iseg_nil _, rfl⟩
    · rw [if_neg e]
      exact ⟨_, _, _, rfl, hx.row s e, rfl⟩
  rw [hval] at hlook
  have HC := clone_calls hseg (by omega)
  rw [← hn]
  clear hx hF h1 hval hseg hn
  go_enter Try.func20, Try.ntmps20
  go_wp2_with (go_at_call 40; refine HC.mono ?_; rintro e w1 ⟨A', c', rfl, hA', hf, hs1⟩)
  go_ret
  exact ⟨A', c', rfl, hA', hf, hs1⟩

def clip1 (x lo hi : Int) : Int := max lo (min x hi)
theorem clip1_if (x lo hi : Int) (h : lo ≤ hi) : (if lo < (if hi < x then hi else x) then (if hi < x then hi else x) else lo) = clip1 x lo hi := by
  unfold clip1
  by_cases h1 : hi < x
  · simp only [if_pos h1]
    by_cases h2 : lo < hi
    · rw [if_pos h2]; omega
    · rw [if_neg h2]; omega
  · simp only [if_neg h1]
    by_cases h2 : lo < x
    · rw [if_pos h2]; omega
    · rw [if_neg h2]; omega

theorem new_id {w w1 : World} {a : Nat} {FA : Nat → Prop} (mo li : Int) (hA : AgInt.AgR w1 a FA [] 0) (hs1 : Step (fun _ => False) ((w.alloc (.map #[] 0)).alloc (.map #[] 0)) w1) (hFA : ∀ k, FA k → ((w.alloc (.map #[] 0)).alloc (.map #[] 0)).heap.size ≤ k) :
    ∃ F, IdR (w1.alloc (.cells #[.int .i64 mo, .int .i64 li, .map (some w.heap.size), .map (some (w.heap.size + 1)), .pointer (some ⟨a, 0, none⟩)] 85)) w1.heap.size F mo li [] 0 ∧ Step (fun _ => False) w (w1.alloc (.cells #[.int .i64 mo, .int .i64 li, .map (some w.heap.size), .map (some (w.heap.size + 1)), .pointer (some ⟨a, 0, none⟩)] 85)) ∧ ∀ k, F k → w.heap.size ≤ k := by
  have hz1 : ∀ (u : World) (o : Obj), (u.alloc o).heap.size = u.heap.size + 1 := fun u o => by show (u.heap.push _).size = _; simp
  have hz : ((w.alloc (.map #[] 0)).alloc (.map #[] 0)).heap.size = w.heap.size + 2 := by rw [hz1, hz1]
  rw [hz] at hFA
  have hsz1 := hs1.size
  rw [hz] at hsz1
  have hst : Step (fun _ => False) w1 (w1.alloc (.cells #[.int .i64 mo, .int .i64 li, .map (some w.heap.size), .map (some (w.heap.size + 1)), .pointer (some ⟨a, 0, none⟩)] 85)) := (Step.refl _ _).alloc _
  have hM1 := ((mg_new Try.prog 9 w).keep ((Step.refl (fun _ => False) (w.alloc (.map #[] 0))).alloc (.map #[] 0)) (fun h => h)).keep hs1 (fun h => h)
  have hM2 := (mg_new Try.prog 3 (w.alloc (.map #[] 0))).keep hs1 (fun h => h)
  rw [hz1] at hM2
  have hlt := fun k (hk : FA k) => hA.lt hk
  have hB := blk_new w1 [.int .i64 mo, .int .i64 li, .map (some w.heap.size), .map (some (w.heap.size + 1)), .pointer (some ⟨a, 0, none⟩)] 85
  refine ⟨fun k => k = w1.heap.size ∨ k = w.heap.size ∨ k = w.heap.size + 1 ∨ FA k, ⟨fun k hk => ?_, a, w.heap.size, w.heap.size + 1, FA, [], fun _ => (none, 0), 0, 0, 0, _, _, ⟨hB, hA.same hst, List.Perm.refl _, hM2.keep hst (fun h => h), fun c => rfl, hM1.keep hst (fun h => h), fun s => rfl, fun s h => absurd rfl h, fun s s' k h => absurd rfl h, fun s k h => absurd rfl h, ⟨fun h => by have := hlt _ h; omega, fun h => by have := hFA _ h; omega, fun h => by have := hFA _ h; omega, by omega, by omega, by omega⟩, ⟨Nat.le_refl _, Nat.le_refl _⟩, (fun o h => by cases h), List.Pairwise.nil, List.Pairwise.nil⟩, fun k hk => ?_⟩, (((Step.refl (fun _ => False) w).alloc _).alloc _).same (hs1.same hst), fun k hk => ?_⟩
  · rw [hz1]
    rcases hk with e | e | e | e
    · omega
    · omega
    · omega
    · have := hlt k e; omega
  · rcases hk with e | e | e | e | ⟨s, h, _⟩
    · exact .inl e
    · exact .inr (.inl e)
    · exact .inr (.inr (.inl e))
    · exact .inr (.inr (.inr e))
    · exact absurd rfl h
  · rcases hk with e | e | e | e
    · omega
    · omega
    · omega
    · have := hFA k e; omega

set_option maxRecDepth 100000 in
set_option maxHeartbeats 1000000 in
theorem new_calls (w : World) (most life : Int) : Calls Try.prog 14 #[.int .i64 most, .int .i64 life] w fun e w' => ∃ p F, e = .returned (.pointer (some ⟨p, 0, none⟩)) ∧ IdR w' p F (clip1 most 0 1024) (clip1 life 1 1048576) [] 0 ∧ Step (fun _ => False) w w' ∧ ∀ k, F k → w.heap.size ≤ k := by
  have hmm := @run_makeMap Try.prog
  have q1 := clip1_if most 0 1024 (by omega)
  have q2 := clip1_if life 1 1048576 (by omega)
  generalize clip1 most 0 1024 = mo at *
  generalize clip1 life 1 1048576 = li at *
  go_enter Try.func14, Try.ntmps14
  go_wp2_with (go_at_call 9; refine (AgInt.new_calls _).mono ?_; rintro e w1 ⟨a, FA, rfl, hA, hs1, hFA⟩)
  all_goals
    obtain ⟨F, r1, r2, r3⟩ := new_id mo li hA hs1 hFA
    go_ret
    exact ⟨_, rfl, F, r1, r2, r3⟩
end Go.Proofs.Ytgohlbljdffelaa.Idl
