/- Two rows of fields that grow together. Own work of this seat; no condition but on lengths. -/
import Derived.Test.YtdglbpjgadjnjaaDoorFrm4
namespace Go.Proofs.YtdglbpjgadjnjaaDoor.Fie
open Go.RowKit Go.Proofs.YtdglbpjgadjnjaaDoor.Kit Go.Proofs.YtdglbpjgadjnjaaDoor.Oct Go.Proofs.YtdglbpjgadjnjaaDoor.Cut
set_option linter.unusedVariables false
set_option linter.unusedSimpArgs false

structure Rw (w2 w : World) (P Q : Option Addr) (k cP cQ : Nat) (L : List Fd) : Prop where
  p : FW w 27 P k cP L
  q : FW w 31 Q k cQ L
  st : Step (fun _ => False) w2 w
  fp : ∀ j, blockOf P = some j → w2.heap.size ≤ j
  fq : ∀ j, blockOf Q = some j → w2.heap.size ≤ j
  ne : ∀ j, blockOf P = some j → blockOf Q = some j → False
structure Hf (w2 w : World) (P Q : Option Addr) (k cP cQ : Nat) (L : List Fd) (x : Fd) : Prop where
  p : FW w 27 P (k + 1) cP (L ++ [x])
  q : FW w 31 Q k cQ L
  st : Step (fun _ => False) w2 w
  fp : ∀ j, blockOf P = some j → w2.heap.size ≤ j
  fq : ∀ j, blockOf Q = some j → w2.heap.size ≤ j
  ne : ∀ j, blockOf P = some j → blockOf Q = some j → False
theorem Rw.keep {w2 w w' : World} {P Q : Option Addr} {k cP cQ : Nat} {L : List Fd} (h : Rw w2 w P Q k cP cQ L) (hs : Step (fun _ => False) w w') : Rw w2 w' P Q k cP cQ L :=
  ⟨h.p.keep hs (fun _ _ h => h), h.q.keep hs (fun _ _ h => h), h.st.same hs, h.fp, h.fq, h.ne⟩
theorem rw_first {w2 w6 W : World} {P Q : Option Addr} {k cP cQ b : Nat} {L : List Fd} (h : Rw w2 w6 P Q k cP cQ L) (hs : Step (fun _ => False) w6 W) (hk : k ≤ 1000) (x : Fd) (hE : Blk W b 27 [.string x.nm, .string x.vl]) :
    ∃ P' c' v, (Builtin.append_ #[29, 29] 29 #[.slice P k cP, .slice (some ⟨b, 0, none⟩) 1 1]).run Tryd.prog W = .ok (.slice P' (k + 1) c') v ∧ Hf w2 v P' Q k c' cQ L x ∧ Step (fun j => blockOf P = some j) W v := by
  have hW := h.keep hs
  obtain ⟨P', c', v, hap, hP, hn, ht⟩ := app_fd_at hW.p (by omega) x hE
  have hz := hW.st.size
  refine ⟨P', c', v, hap, ⟨hP, hW.q.keep ht (fun j hj hp => h.ne j hp hj), hW.st.trans ht (fun j hj hp => by have := h.fp j hp; omega), fun j hj => ?_, h.fq, fun j hj hq => ?_⟩, ht⟩
  · rcases hn with e | ⟨i, e, hi⟩
    · exact h.fp j (e ▸ hj)
    · rw [hj] at e
      have := Option.some.inj e
      omega
  · rcases hn with e | ⟨i, e, hi⟩
    · exact h.ne j (e ▸ hj) hq
    · rw [hj] at e
      have := Option.some.inj e
      have := FSeg.lt hW.q hq
      omega
theorem rw_second {w2 v V : World} {P Q : Option Addr} {k cP cQ b : Nat} {L : List Fd} {x : Fd} (h : Hf w2 v P Q k cP cQ L x) (hs : Step (fun _ => False) v V) (hk : k ≤ 1000) (hE : Blk V b 31 [.string x.nm, .string x.vl]) :
    ∃ Q' d' u, (Builtin.append_ #[22, 22] 22 #[.slice Q k cQ, .slice (some ⟨b, 0, none⟩) 1 1]).run Tryd.prog V = .ok (.slice Q' (k + 1) d') u ∧ Rw w2 u P Q' (k + 1) cP d' (L ++ [x]) ∧ Step (fun j => blockOf Q = some j) V u := by
  have hpV := h.p.keep hs (fun _ _ h => h)
  have hqV := h.q.keep hs (fun _ _ h => h)
  obtain ⟨Q', d', u, hap, hQ, hn, ht⟩ := app_rf_any hqV (by omega) x hE
  have hz := (h.st.same hs).size
  refine ⟨Q', d', u, hap, ⟨hpV.keep ht (fun j hj hq => h.ne j hj hq), hQ, (h.st.same hs).trans ht (fun j hj hq => by have := h.fq j hq; omega), h.fp, fun j hj => ?_, fun j hj hq => ?_⟩, ht⟩
  · rcases hn with e | ⟨i, e, hi⟩
    · exact h.fq j (e ▸ hj)
    · rw [hj] at e
      have := Option.some.inj e
      omega
  · rcases hn with e | ⟨i, e, hi⟩
    · exact h.ne j hj (e ▸ hq)
    · rw [hq] at e
      have := Option.some.inj e
      have := FSeg.lt hpV hj
      omega
end Go.Proofs.YtdglbpjgadjnjaaDoor.Fie
