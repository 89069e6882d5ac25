/- rotor's law: rows of acts; marks by their own names. Own work of this seat. -/
import Derived.Test.YtlmppdpjjkdoaabRot4
import Derived.Test.YtlmppdpjjkdoaabBase
namespace Go.Proofs.Ytlmppdpjjkdoaab.Rot
open Go.RowKit Go.Proofs.Ytlmppdpjjkdoaab.Kit Go.Proofs.Ytlmppdpjjkdoaab.PRotorPlays Go.Proofs.YtlmppdpjjkdoaabW.PrintWords Go.Proofs.YtlmppdpjjkdoaabW.PrintLast Go.Proofs.YtlmppdpjjkdoaabW.PrintMore
set_option linter.unusedVariables false
set_option linter.unusedSimpArgs false

/-- An act: is it a Keep, and its entries. -/
structure Act2 where
  f0 : Bool
  f1 : List S45
def kAct : Kd Act2 := Kd.iso (Kd.pair Kd.bool (Kd.slice 45 k45)) (fun x : Act2 => (x.f0, x.f1))
def zAct : Act2 := ⟨false, []⟩
theorem act_at {w : World} {A : Option Addr} {n : Nat} {xs : List Act2} (h : Kd.C kAct w A n xs) (i : Nat) (h1 : i < n) : ∃ (ad : Addr) (keep : Bool) (L : Option Addr) (cL : Nat) (l : List S45), A = some ad ∧ l.length ≤ cL ∧ ∀ W, Below w.heap.size w W → W.cell? (ad.add (i * 2)) = some (.bool keep) ∧ W.cell? ⟨(ad.add (i * 2)).block, (ad.add (i * 2)).off + 1, none⟩ = some (.slice L l.length cL) ∧ Kd.C k45 W L l.length l := by
  obtain ⟨ad, c, e, _, hK, hc0⟩ := Kd.C_get h zAct (i : Int) (by omega) (by omega)
  have hc : ∀ j u, c[j]? = some u → w.cell? (ad.add (i * 2 + j)) = some u := hc0
  obtain ⟨_, _, rfl, rfl, ⟨L, cL, rfl, hle, hC⟩⟩ := hK
  refine ⟨ad, _, L, cL, _, e, hle, fun W hb => ⟨pw_cell_below hb (hc 0 _ rfl), ?_, Kd.C_below hC hb⟩⟩
  rw [← add_field _ _ 1 (by omega)]
  exact pw_cell_below hb (hc 1 _ rfl)

theorem ofP_at {x : List S49} (h : (x.map S49.f0).Nodup) {i : Nat} (hi : i < x.length) : ofP x (x[i]).f0 = (x[i]).f1 := by
  have : x.find? (fun m => decide (m.f0 = (x[i]).f0)) = some x[i] := by
    rw [List.find?_eq_some_iff_getElem]
    refine ⟨by simp, i, hi, rfl, fun j hj => ?_⟩
    have hne : (x[j]).f0 ≠ (x[i]).f0 := by
      have := List.nodup_iff_pairwise_ne.1 h
      rw [List.pairwise_iff_getElem] at this
      have := this j i (by rw [List.length_map]; omega) (by rw [List.length_map]; omega) hj
      simpa using this
    simpa using hne
  unfold ofP
  rw [this]
theorem mrow_at {w : World} {A : Option Addr} {c : Nat} {x : List S49} (h : MRow w A c x) (i : Nat) (hi : i < x.length) : ∃ (ad : Addr) (s : ByteArray) (n : Int), A = some ad ∧ w.cell? (ad.add (i * 2)) = some (.string s) ∧ w.cell? ⟨(ad.add (i * 2)).block, (ad.add (i * 2)).off + 1, none⟩ = some (.int .i64 n) ∧ ofP x s = n ∧ s.size ≤ 1000 := by
  obtain ⟨ad, e, c1, c2⟩ := at_T49 h.C (i : Int) (by omega) (by omega)
  rw [rd49 hi, Int.toNat_natCast] at c1 c2
  exact ⟨ad, _, _, e, c1, c2, ofP_at h.nd hi, h.sh _ (List.getElem_mem hi)⟩
theorem mrow_nil (w : World) : MRow w none 0 [] := ⟨⟨rfl, by decide, fun h => absurd h (by decide)⟩, Nat.le_refl _, List.nodup_nil, fun m hm => (by cases hm), fun k hk => (by cases hk)⟩
theorem bd_zero : Bd 0 (ofP []) := fun s => ⟨Int.le_refl _, Int.le_refl _⟩
theorem ofP_nil : ofP [] = fun _ => 0 := rfl
end Go.Proofs.Ytlmppdpjjkdoaab.Rot
