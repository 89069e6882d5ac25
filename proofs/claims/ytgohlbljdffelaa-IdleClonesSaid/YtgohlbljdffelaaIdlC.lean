/- idle: what Put leaves. Own work of this seat. -/
import Derived.Test.YtgohlbljdffelaaIdlB
namespace Go.Proofs.Ytgohlbljdffelaa.Idl
open Go.RowKit Go.Proofs.Ytgohlbljdffelaa.Kit Go.Proofs.Ytgohlbljdffelaa.AgP Go.Proofs.Ytgohlbljdffelaa.IntS Go.Proofs.Ytgohlbljdffelaa
set_option linter.unusedVariables false
set_option linter.unusedSimpArgs false

/-- The eldest ones of a backend go while there are too many. -/
def evictN : Nat → Int → ByteArray → List On → List Int → List On × List Int
  | 0, _, _, l, cl => (l, cl)
  | n + 1, most, s, l, cl => if most < ((stackOf l s).length : Int) then (match stackOf l s with | [] => (l, cl) | e :: _ => evictN n most s (dropC l e) (cl ++ [e])) else (l, cl)
theorem evict_stop (n : Nat) {most : Int} {s : ByteArray} {l : List On} {cl : List Int} (h : ¬ most < ((stackOf l s).length : Int)) : evictN n most s l cl = (l, cl) := by
  cases n with
  | zero => rfl
  | succ n => unfold evictN; rw [if_neg h]
theorem evict_step {n : Nat} {most : Int} {s : ByteArray} {l : List On} {cl : List Int} {e : Int} {r : List Int} (h : most < ((stackOf l s).length : Int)) (he : stackOf l s = e :: r) : evictN (n + 1) most s l cl = evictN n most s (dropC l e) (cl ++ [e]) := by
  show (if most < ((stackOf l s).length : Int) then (match stackOf l s with | [] => (l, cl) | e :: _ => evictN n most s (dropC l e) (cl ++ [e])) else (l, cl)) = _
  rw [if_pos h, he]
def addO (l : List On) (nm : ByteArray) (conn tm turn : Int) : List On := dropC l conn ++ [⟨nm, conn, tm, turn⟩]
def putL (most : Int) (l : List On) (nm : ByteArray) (conn tm turn : Int) : List On × List Int := evictN (addO l nm conn tm turn).length most nm (addO l nm conn tm turn) []

theorem put_ok {w w' : World} {p a MS MO H1 : Nat} {FA FA' : Nat → Prop} {most life : Int} {l : List On} {L : List (Ev Int)} {ro : ByteArray → Option Addr × Nat} {t n1 n2 m2 m2' : Nat} {fo fs : Lit → Option Value} {nm : ByteArray} {conn v : Int} {A' : Option Addr} {c' : Nat}
    (hx : IdX w p a MS MO FA most life l L ro t n1 n2 m2 fo fs) (hcn : ∀ o ∈ l, o.conn ≠ conn) (hnm : nm.size ≤ 1000) (hck : AgInt.KOk conn)
    (hst : Step (fun k => FA k ∨ k = MO ∨ k = MS ∨ (stackOf l nm ≠ [] ∧ blockOf (ro nm).1 = some k)) w w') (hH1 : w.heap.size ≤ H1)
    (hag : AgInt.AgR w' a FA' (setL L conn (AgInt.clipT v) ((t + 1 : Nat) : Int)) (t + 1)) (hFA : ∀ k, FA' k → FA k ∨ H1 ≤ k)
    (hmo : MG Try.prog 3 w' MO (n1 + 1) (l.length + 1) (putF fo (ilit conn) (.string nm))) (hms : MG Try.prog 9 w' MS (n2 + 1) m2' (putF fs (slit nm) (.slice A' ((stackOf l nm).length + 1) c')))
    (hrow : ISeg w' A' ((stackOf l nm).length + 1) c' (stackOf l nm ++ [conn])) (hA' : ∀ k, blockOf A' = some k → (stackOf l nm ≠ [] ∧ blockOf (ro nm).1 = some k) ∨ (w.heap.size ≤ k ∧ k < H1)) :
    ∃ ro', IdX w' p a MS MO FA' most life (l ++ [⟨nm, conn, AgInt.clipT v, ((t + 1 : Nat) : Int)⟩]) (setL L conn (AgInt.clipT v) ((t + 1 : Nat) : Int)) ro' (t + 1) (n1 + 1) (n2 + 1) m2' (putF fo (ilit conn) (.string nm)) (putF fs (slit nm) (.slice A' ((stackOf l nm).length + 1) c')) ∧
      ∀ k, ifoot p MS MO FA' (l ++ [⟨nm, conn, AgInt.clipT v, ((t + 1 : Nat) : Int)⟩]) ro' k → ifoot p MS MO FA l ro k ∨ w.heap.size ≤ k := by
  have hp := hx.blk.lt
  have hMS := hx.ms.lt
  have hMO := hx.mo.lt
  have hs1 : stackOf (l ++ [⟨nm, conn, AgInt.clipT v, ((t + 1 : Nat) : Int)⟩]) nm = stackOf l nm ++ [conn] := by rw [stack_append]; simp [stackOf]
  have hs2 : ∀ s, s ≠ nm → stackOf (l ++ [⟨nm, conn, AgInt.clipT v, ((t + 1 : Nat) : Int)⟩]) s = stackOf l s := fun s hs => by
    rw [stack_append]
    have : stackOf [⟨nm, conn, AgInt.clipT v, ((t + 1 : Nat) : Int)⟩] s = [] := by unfold stackOf; rw [List.filter_cons_of_neg (by simpa using fun e => hs e.symm)]; rfl
    rw [this, List.append_nil]
  have hFAk : ∀ k, k < w.heap.size → FA' k → FA k := fun k hk h => (hFA k h).elim id (fun h => by omega)
  have hrl : ∀ s k, stackOf l s ≠ [] → blockOf (ro s).1 = some k → k < w.heap.size := fun s k hs hk => (hx.row s hs).lt hk
  have hAk : ∀ k, blockOf A' = some k → ¬ FA' k ∧ k ≠ p ∧ k ≠ MS ∧ k ≠ MO := fun k hk => by
    rcases hA' k hk with ⟨h1, h2⟩ | ⟨h1, h2⟩
    · have := hx.rnf nm k h1 h2
      exact ⟨fun h => this.1 (hFAk k (hrl nm k h1 h2) h), this.2⟩
    · exact ⟨fun h => (hFA k h).elim (fun h => by have := hx.ag.lt h; omega) (fun h => by omega), by omega, by omega, by omega⟩
  have hsepA : ∀ s k, s ≠ nm → stackOf l s ≠ [] → blockOf (ro s).1 = some k → blockOf A' ≠ some k := fun s k hs h1 h2 h3 => by
    rcases hA' k h3 with ⟨g1, g2⟩ | ⟨g1, g2⟩
    · exact hs (hx.sep s nm k h1 g1 h2 g2)
    · have := hrl s k h1 h2; omega
  have hcnE : ∀ s ∈ L, s.key ≠ conn := fun s hs => by
    obtain ⟨o, ho, rfl⟩ := List.mem_map.1 (hx.pm.mem_iff.1 hs)
    exact hcn o ho
  refine ⟨fun s => if s = nm then (A', c') else ro s, ⟨hx.blk.keep hst ?_, hag, ?_, ?_, fun c => ?_, hms, fun s => ?_, fun s hs => ?_, fun s s' k h1 h2 h3 h4 => ?_, fun s k h1 h2 => ?_, ⟨fun h => hx.ne.1 (hFAk p hp h), fun h => hx.ne.2.1 (hFAk MS hMS h), fun h => hx.ne.2.2.1 (hFAk MO hMO h), hx.ne.2.2.2⟩, ⟨by have := hx.cnt.1; omega, by have := hx.cnt.2; rw [List.length_append, List.length_singleton]; omega⟩, fun o ho => ?_, ?_, ?_⟩, fun k hk => ?_⟩
  · rintro (e | e | e | ⟨e1, e⟩)
    · exact hx.ne.1 e
    · exact hx.ne.2.2.2.2.2 e
    · exact hx.ne.2.2.2.2.1 e
    · exact (hx.rnf _ _ e1 e).2.1 rfl
  · have q := perm_set L conn (AgInt.clipT v) ((t + 1 : Nat) : Int)
    rw [drop_none hcnE] at q
    refine q.trans (((List.perm_cons _).2 hx.pm).trans ?_)
    unfold evs
    rw [List.map_append]
    exact (List.perm_append_singleton _ _).symm
  · rw [List.length_append, List.length_singleton]; exact hmo
  · have h0 := own_snoc (o := ⟨nm, conn, AgInt.clipT v, ((t + 1 : Nat) : Int)⟩) hcn c
    rw [h0]
    unfold putF
    by_cases e : c = conn
    · rw [e, if_pos (sameKey_self (ilit_ok _)), if_pos rfl]; rfl
    · have ek : ilit c ≠ ilit conn := fun e' => e (ilit_inj e')
      rw [if_neg (by rw [Go.Maps.sameKey_ne ek]; simp), if_neg e]
      exact hx.fo c
  · unfold putF
    by_cases e : s = nm
    · subst e
      rw [if_pos (sameKey_self (slit_ok _)), hs1, if_neg (by simp), if_pos rfl, List.length_append, List.length_singleton]
    · have ek : slit s ≠ slit nm := fun e' => e (slit_inj e')
      rw [if_neg (by rw [Go.Maps.sameKey_ne ek]; simp), hs2 s e, if_neg e]
      exact hx.fs s
  · by_cases e : s = nm
    · subst e
      rw [hs1, if_pos rfl, List.length_append, List.length_singleton]; exact hrow
    · rw [hs2 s e] at hs ⊢
      rw [if_neg e]
      refine (hx.row s hs).keep hst (fun k hk => ?_)
      rintro (e' | e' | e' | ⟨e1, e'⟩)
      · exact (hx.rnf s k hs hk).1 e'
      · exact (hx.rnf s k hs hk).2.2.2 e'
      · exact (hx.rnf s k hs hk).2.2.1 e'
      · exact e (hx.sep s nm k hs e1 hk e')
  · by_cases e : s = nm
    · by_cases e' : s' = nm
      · rw [e, e']
      · rw [hs2 s' e'] at h2
        rw [if_neg e'] at h4
        rw [if_pos e] at h3
        exact absurd h3 (hsepA s' k e' h2 h4)
    · by_cases e' : s' = nm
      · rw [hs2 s e] at h1
        rw [if_neg e] at h3
        rw [if_pos e'] at h4
        exact absurd h4 (hsepA s k e h1 h3)
      · rw [hs2 s e] at h1
        rw [hs2 s' e'] at h2
        rw [if_neg e] at h3
        rw [if_neg e'] at h4
        exact hx.sep s s' k h1 h2 h3 h4
  · by_cases e : s = nm
    · rw [if_pos e] at h2
      exact hAk k h2
    · rw [hs2 s e] at h1
      rw [if_neg e] at h2
      have := hx.rnf s k h1 h2
      exact ⟨fun h => this.1 (hFAk k (hrl s k h1 h2) h), this.2⟩
  · rcases List.mem_append.1 ho with ho | ho
    · exact hx.ok o ho
    · obtain rfl : o = _ := by simpa using ho
      exact ⟨hnm, hck⟩
  · rw [List.map_append]
    refine List.nodup_append.2 ⟨hx.ndc, by simp, fun b hb1 c hc e => ?_⟩
    obtain ⟨y, hy, rfl⟩ := List.mem_map.1 hb1
    simp only [List.map_cons, List.map_nil, List.mem_singleton] at hc
    exact hcn y hy (e.trans hc)
  · rw [List.pairwise_append]
    refine ⟨hx.inc, List.pairwise_singleton _ _, fun x hx' y hy => ?_⟩
    obtain rfl : y = _ := by simpa using hy
    have hm : (⟨x.conn, x.tm, x.turn⟩ : Ev Int) ∈ L := hx.pm.mem_iff.2 (List.mem_map_of_mem (f := fun o : On => (⟨o.conn, o.tm, o.turn⟩ : Ev Int)) hx')
    have := hx.ag.2.1 _ hm
    simp only at this ⊢
    omega
  · rcases hk with h | h | h | h | ⟨s, h, e⟩
    · exact .inl (.inl h)
    · exact .inl (.inr (.inl h))
    · exact .inl (.inr (.inr (.inl h)))
    · exact (hFA k h).imp (fun h => .inr (.inr (.inr (.inl h)))) (fun h => by omega)
    · have e : blockOf (if s = nm then (A', c') else ro s).1 = some k := e
      by_cases e' : s = nm
      · rw [if_pos e'] at e
        exact (hA' k e).imp (fun h => .inr (.inr (.inr (.inr ⟨nm, h⟩)))) And.left
      · rw [if_neg e'] at e
        rw [hs2 s e'] at h
        exact .inl (.inr (.inr (.inr (.inr ⟨s, h, e⟩))))
end Go.Proofs.Ytgohlbljdffelaa.Idl
