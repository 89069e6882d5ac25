/- IdleOnce: what is closed, one by one; the acts. Own work of this seat. -/
import Derived.Test.YtgohlbljdffelaaIdlE
import Derived.Test.YtgohlbljdffelaaCut
import Derived.Test.YtgohlbljdffelaaBase
namespace Go.Proofs.Ytgohlbljdffelaa.Idl
open Go.RowKit Go.Proofs.Ytgohlbljdffelaa.Kit Go.Proofs.Ytgohlbljdffelaa.AgP Go.Proofs.Ytgohlbljdffelaa.IntS Go.Proofs.Ytgohlbljdffelaa Go.Proofs.YtgohlbljdffelaaW.PrintWords
set_option linter.unusedVariables false
set_option linter.unusedSimpArgs false

def dropAll (l : List On) (cs : List Int) : List On := cs.foldl dropC l
theorem dropAll_snoc (l : List On) (cs : List Int) (c : Int) : dropAll l (cs ++ [c]) = dropC (dropAll l cs) c := by unfold dropAll; rw [List.foldl_append]; rfl
theorem without_le (c : Int) (l : List Int) : (without c l).length ≤ l.length := List.length_filter_le _ _
theorem evict_nil (n : Nat) (most : Int) {s : ByteArray} {l : List On} (cl : List Int) (h : stackOf l s = []) : evictN (n + 1) most s l cl = (l, cl) := by
  show (if most < ((stackOf l s).length : Int) then (match stackOf l s with | [] => (l, cl) | e :: _ => evictN n most s (dropC l e) (cl ++ [e])) else (l, cl)) = (l, cl)
  rw [h]
  split <;> rfl
theorem evict_spec (most : Int) (nm : ByteArray) : ∀ (n : Nat) (l : List On) (cl : List Int), ∃ cs, (evictN n most nm l cl).2 = cl ++ cs ∧ (evictN n most nm l cl).1 = dropAll l cs ∧ ∀ j c, cs[j]? = some c → ∃ o ∈ dropAll l (cs.take j), o.nm = nm ∧ o.conn = c
  | 0, l, cl => ⟨[], by simp [evictN], rfl, fun j c h => by simp at h⟩
  | n + 1, l, cl => by
    by_cases hm : most < ((stackOf l nm).length : Int)
    · cases hs : stackOf l nm with
      | nil =>
        rw [evict_nil n most cl hs]
        exact ⟨[], by simp, rfl, fun j c h => by simp at h⟩
      | cons e r =>
        rw [evict_step hm hs]
        obtain ⟨cs, h1, h2, h3⟩ := evict_spec most nm n (dropC l e) (cl ++ [e])
        refine ⟨e :: cs, by rw [h1]; simp, by rw [h2]; rfl, fun j c h => ?_⟩
        cases j with
        | zero =>
          obtain rfl : e = c := by simpa using h
          obtain ⟨o, ho, h4, h5⟩ := stack_mem.1 (by rw [hs]; exact List.mem_cons_self .. : e ∈ stackOf l nm)
          exact ⟨o, ho, h4, h5⟩
        | succ j => exact h3 j c (by simpa using h)
    · rw [evict_stop _ hm]
      exact ⟨[], by simp, rfl, fun j c h => by simp at h⟩
theorem stack_dropAll_le (s : ByteArray) : ∀ (cs : List Int) (l : List On), (stackOf (dropAll l cs) s).length ≤ (stackOf l s).length
  | [], l => Nat.le_refl _
  | c :: cs, l => by
    have h1 := stack_dropAll_le s cs (dropC l c)
    have h2 := without_le c (stackOf l s)
    rw [← stack_drop] at h2
    exact Nat.le_trans h1 h2
theorem evict_cap {most : Int} (h0 : 0 ≤ most) (nm : ByteArray) : ∀ (n : Nat) (l : List On) (cl : List Int), (stackOf l nm).length ≤ n → ((stackOf (evictN n most nm l cl).1 nm).length : Int) ≤ most
  | 0, l, cl, h => by unfold evictN; simp only; omega
  | n + 1, l, cl, h => by
    by_cases hm : most < ((stackOf l nm).length : Int)
    · cases hs : stackOf l nm with
      | nil => rw [hs] at hm; simp at hm; omega
      | cons e r =>
        rw [evict_step hm hs]
        refine evict_cap h0 nm n _ _ ?_
        rw [stack_drop, hs]
        unfold without
        rw [List.filter_cons_of_neg (by simp)]
        have := List.length_filter_le (fun x => !decide (x = e)) r
        rw [hs, List.length_cons] at h
        omega
    · rw [evict_stop _ hm]
      simp only
      omega
theorem add_stack (l : List On) (nm s : ByteArray) (conn tm turn : Int) (h : s ≠ nm) : (stackOf (addO l nm conn tm turn) s).length ≤ (stackOf l s).length := by
  unfold addO
  rw [stack_append, stack_drop]
  have : stackOf [⟨nm, conn, tm, turn⟩] s = [] := by unfold stackOf; rw [List.filter_cons_of_neg (by simpa using fun e => h e.symm)]; rfl
  rw [this, List.append_nil]
  exact without_le _ _
/-- Behind Put no backend has more than may be. -/
theorem put_cap {most : Int} (h0 : 0 ≤ most) {l : List On} (hc : ∀ s, ((stackOf l s).length : Int) ≤ most) (nm : ByteArray) (conn tm turn : Int) : ∀ s, ((stackOf (putL most l nm conn tm turn).1 s).length : Int) ≤ most := by
  intro s
  by_cases e : s = nm
  · subst e
    exact evict_cap h0 s _ _ _ (stack_le _ _)
  · unfold putL
    obtain ⟨cs, _, h2, _⟩ := evict_spec most nm (addO l nm conn tm turn).length (addO l nm conn tm turn) []
    rw [h2]
    have h3 := stack_dropAll_le s cs (addO l nm conn tm turn)
    have h4 := add_stack l nm s conn tm turn e
    have h5 := hc s
    omega
theorem drop_cap {most : Int} {l : List On} (hc : ∀ s, ((stackOf l s).length : Int) ≤ most) (c : Int) : ∀ s, ((stackOf (dropC l c) s).length : Int) ≤ most := fun s => by
  have h2 := without_le c (stackOf l s)
  rw [← stack_drop] at h2
  have := hc s
  omega
theorem own_add (l : List On) (nm : ByteArray) (conn tm turn d : Int) : ownF (addO l nm conn tm turn) d = if d = conn then some nm else ownF l d := by
  unfold addO
  have := own_snoc (o := ⟨nm, conn, tm, turn⟩) (own_dropped l conn) d
  rw [this]
  by_cases e : d = conn
  · rw [if_pos e, if_pos e]
  · rw [if_neg e, if_neg e, own_drop, if_neg e]
theorem add_length {l : List On} (hn : (l.map (·.conn)).Nodup) (nm : ByteArray) (conn tm turn : Int) : (addO l nm conn tm turn).length = if (ownF l conn).isSome then l.length else l.length + 1 := by
  unfold addO
  rw [List.length_append, List.length_singleton]
  rcases own_cases l conn with ⟨e1, e2⟩ | ⟨o, ho, hoc, e1⟩
  · rw [e1, drop_none' e2]; rfl
  · rw [e1]
    subst hoc
    simp only [Option.isSome_some, if_true]
    exact dropC_length hn ho
theorem fo_put {f : Lit → Option Value} {l : List On} (h : Fo f l) (nm : ByteArray) (conn tm turn : Int) : Fo (putF f (ilit conn) (.string nm)) (addO l nm conn tm turn) := by
  intro c
  rw [own_add]
  unfold putF
  by_cases e : c = conn
  · rw [e, if_pos (sameKey_self (ilit_ok _)), if_pos rfl]; rfl
  · have ek : ilit c ≠ ilit conn := fun e' => e (ilit_inj e')
    rw [if_neg (by rw [Go.Maps.sameKey_ne ek]; simp), if_neg e]
    exact h c
theorem fo_drop {f : Lit → Option Value} {l : List On} (h : Fo f l) (conn : Int) : Fo (delF f (ilit conn)) (dropC l conn) := by
  intro c
  rw [own_drop]
  unfold delF
  by_cases e : c = conn
  · rw [e, if_pos (sameKey_self (ilit_ok _)), if_pos rfl]; rfl
  · have ek : ilit c ≠ ilit conn := fun e' => e (ilit_inj e')
    rw [if_neg (by rw [Go.Maps.sameKey_ne ek]; simp), if_neg e]
    exact h c
theorem drop_len {l : List On} (hn : (l.map (·.conn)).Nodup) (conn : Int) : (dropC l conn).length = if (ownF l conn).isSome then l.length - 1 else l.length := by
  rcases own_cases l conn with ⟨e1, e2⟩ | ⟨o, ho, hoc, e1⟩
  · rw [e1, drop_none' e2]; rfl
  · rw [e1]
    subst hoc
    have := dropC_length hn ho
    simp only [Option.isSome_some, if_true]
    omega
theorem fo_some {f : Lit → Option Value} {l : List On} (h : Fo f l) (c : Int) : (f (ilit c)).isSome = (ownF l c).isSome := by rw [h c]; simp
theorem nodup_all {l : List On} (h : (l.map (·.conn)).Nodup) : ∀ cs : List Int, ((dropAll l cs).map (·.conn)).Nodup := by
  intro cs
  induction cs generalizing l with
  | nil => exact h
  | cons c cs ih => exact ih (nodup_dropC h c)
theorem nodup_add {l : List On} (h : (l.map (·.conn)).Nodup) (nm : ByteArray) (conn tm turn : Int) : ((addO l nm conn tm turn).map (·.conn)).Nodup := by
  unfold addO
  rw [List.map_append]
  refine List.nodup_append.2 ⟨nodup_dropC h conn, by simp, fun b hb1 c hc e => ?_⟩
  obtain ⟨y, hy, rfl⟩ := List.mem_map.1 hb1
  simp only [List.map_cons, List.map_nil, List.mem_singleton] at hc
  exact (mem_dropC.1 hy).2 (e.trans hc)

theorem chain_len : ∀ (cs : List Int) {l : List On}, (l.map (·.conn)).Nodup → (∀ (j : Nat) (c : Int), cs[j]? = some c → ∃ o ∈ dropAll l (cs.take j), o.conn = c) → (dropAll l cs).length + cs.length = l.length
  | [], l, hn, h => rfl
  | c :: cs, l, hn, h => by
    obtain ⟨o, ho, hoc⟩ := h 0 c rfl
    have h1 := dropC_length hn (show o ∈ l from ho)
    rw [hoc] at h1
    have h2 := chain_len cs (nodup_dropC hn c) (fun j d hj => h (j + 1) d (by simpa using hj))
    show (dropAll (dropC l c) cs).length + (cs.length + 1) = l.length
    omega

/-- An act of law 25: its kind, connection, number and name. -/
structure Act4 where
  f0 : Int
  f1 : Int
  f2 : Int
  f3 : ByteArray
def kAct4 : Kd Act4 := Kd.iso (Kd.pair (Kd.int .i64) (Kd.pair (Kd.int .i64) (Kd.pair (Kd.int .i64) Kd.string))) (fun x : Act4 => (x.f0, x.f1, x.f2, x.f3))
theorem kAct4_open {w : World} {x : Act4} {cs : List Value} (h : kAct4.K w x cs) : cs = [.int .i64 x.f0, .int .i64 x.f1, .int .i64 x.f2, .string x.f3] := by
  obtain ⟨_, _, rfl, rfl, ⟨_, _, rfl, rfl, ⟨_, _, rfl, rfl, rfl⟩⟩⟩ := h
  exact rfl
def zAct4 : Act4 := ⟨0, 0, 0, ⟨#[]⟩⟩
theorem cell_lt {w : World} {p : Addr} {v : Value} (h : w.cell? p = some v) : p.block < w.heap.size := by
  rcases Nat.lt_or_ge p.block w.heap.size with hl | hl
  · exact hl
  · unfold World.cell? at h
    rw [Array.getElem?_eq_none hl] at h
    simp at h
theorem cell_bel {w w' : World} {p : Addr} {v : Value} (h : w.cell? p = some v) (hb : Below w.heap.size w w') : w'.cell? p = some v := by
  rw [hb.cell (cell_lt h)]; exact h
theorem act_at {w : World} {A : Option Addr} {n : Nat} {xs : List Act4} (h : Kd.C kAct4 w A n xs) (i : Nat) (h1 : i < n) : ∃ (ad : Addr) (x : Act4), A = some ad ∧ x = xs.getD i zAct4 ∧ ∀ w', Below w.heap.size w w' → w'.cell? (ad.add (i * 4)) = some (.int .i64 x.f0) ∧ w'.cell? ⟨(ad.add (i * 4)).block, (ad.add (i * 4)).off + 1, none⟩ = some (.int .i64 x.f1) ∧ w'.cell? ⟨(ad.add (i * 4)).block, (ad.add (i * 4)).off + 2, none⟩ = some (.int .i64 x.f2) ∧ w'.cell? ⟨(ad.add (i * 4)).block, (ad.add (i * 4)).off + 3, none⟩ = some (.string x.f3) := by
  obtain ⟨ad, c, e, _, hK, hc0⟩ := Kd.C_get h zAct4 (i : Int) (by omega) (by omega)
  have hc : ∀ j u, c[j]? = some u → w.cell? (ad.add (i * 4 + j)) = some u := hc0
  obtain rfl := kAct4_open hK
  exact ⟨ad, _, e, rfl, fun w' hb => ⟨cell_bel (hc 0 _ rfl) hb, cell_bel (by rw [← add_field _ _ 1 (by omega)]; exact hc 1 _ rfl) hb, cell_bel (by rw [← add_field _ _ 2 (by omega)]; exact hc 2 _ rfl) hb, cell_bel (by rw [← add_field _ _ 3 (by omega)]; exact hc 3 _ rfl) hb⟩⟩
end Go.Proofs.Ytgohlbljdffelaa.Idl
