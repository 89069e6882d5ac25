/- rotor's laws: entries whose weights are brought within bounds. Own work of this seat. -/
import Derived.Test.YtlmppdpjjkdoaaaRot6
import Derived.Test.YtlmppdpjjkdoaaaRotPure
namespace Go.Proofs.Ytlmppdpjjkdoaaa.Rot
open Go.RowKit Go.Proofs.Ytlmppdpjjkdoaaa.Kit Go.Proofs.Ytlmppdpjjkdoaaa.PRotorRounds Go.Proofs.YtlmppdpjjkdoaaaW.PrintWords Go.Proofs.YtlmppdpjjkdoaaaW.PrintLast Go.Proofs.YtlmppdpjjkdoaaaW.PrintMore Go.Maps
set_option linter.unusedVariables false
set_option linter.unusedSimpArgs false

theorem and_mask (n : Int) (b : Nat) (hb : b ≤ 20) : Go.bits .and .i64 n ((2 ^ b - 1 : Nat) : Int) = n % ((2 ^ b : Nat) : Int) := by
  have hpow : 2 ^ b ≤ 2 ^ 20 := Nat.pow_le_pow_right (by omega) hb
  have hp0 : 0 < 2 ^ b := Nat.two_pow_pos b
  have h7 : (BitVec.ofInt 64 ((2 ^ b - 1 : Nat) : Int)).toNat = 2 ^ b - 1 := by
    rw [BitVec.ofInt_natCast, BitVec.toNat_ofNat]
    apply Nat.mod_eq_of_lt
    have : (2 : Nat) ^ 20 < 2 ^ 64 := by decide
    omega
  have key : (BitVec.ofInt 64 n &&& BitVec.ofInt 64 ((2 ^ b - 1 : Nat) : Int)).toNat = (n % ((2 ^ 64 : Nat) : Int)).toNat % 2 ^ b := by
    rw [BitVec.toNat_and, BitVec.toNat_ofInt, h7, Nat.and_two_pow_sub_one_eq_mod]
  show IntKind.i64.wrap ((BitVec.ofInt 64 n &&& BitVec.ofInt 64 ((2 ^ b - 1 : Nat) : Int)).toNat : Nat) = _
  rw [key, IntKind.wrap_i64]
  have hd : ((2 ^ b : Nat) : Int) ∣ ((2 ^ 64 : Nat) : Int) := Int.natCast_dvd_natCast.2 (Nat.pow_dvd_pow 2 (by omega))
  have e1 : (((n % ((2 ^ 64 : Nat) : Int)).toNat % 2 ^ b : Nat) : Int) = n % ((2 ^ b : Nat) : Int) := by
    rw [Int.natCast_emod, Int.toNat_of_nonneg (Int.emod_nonneg _ (by decide)), Int.emod_emod_of_dvd _ hd]
  have h0 := Int.emod_nonneg n (show ((2 ^ b : Nat) : Int) ≠ 0 by omega)
  have h1 := Int.emod_lt_of_pos n (show 0 < ((2 ^ b : Nat) : Int) by omega)
  have h20 : (2 : Nat) ^ 20 = 1048576 := by decide
  rw [e1]; omega

theorem eseg_cell {w : World} {T : TypeId} {g n c : Nat} {l : List (ByteArray × Int)} (h : ESeg w T (some ⟨g, 0, none⟩) n c l) {i : Nat} {e : ByteArray × Int} (hi : l[i]? = some e) :
    w.cell? ⟨g, i * 2, none⟩ = some (.string e.1) ∧ w.cell? ⟨g, i * 2 + 1, none⟩ = some (.int .i64 e.2) ∧ w.frozen? ⟨g, i * 2 + 1, none⟩ = false := by
  obtain ⟨h1, ⟨h0, _, _⟩ | ⟨g', cur, he, h2, h3, h4, h5⟩⟩ := h
  · cases h0
  · obtain rfl : g = g' := by simpa using he
    obtain ⟨e1, e2⟩ := ecells_get l i e hi
    exact ⟨by simp [World.cell?, h2, h5 _ _ e1], by simp [World.cell?, h2, h5 _ _ e2], by simp [World.frozen?, h2]⟩
theorem eseg_set {w : World} {T : TypeId} {g n c : Nat} {l : List (ByteArray × Int)} (h : ESeg w T (some ⟨g, 0, none⟩) n c l) {i : Nat} {e : ByteArray × Int} (hi : l[i]? = some e) (v : Int) :
    ESeg (w.setCell ⟨g, i * 2 + 1, none⟩ (.int .i64 v)) T (some ⟨g, 0, none⟩) n c (l.set i (e.1, v)) := by
  obtain ⟨h1, ⟨h0, _, _⟩ | ⟨g', cur, he, h2, h3, h4, h5⟩⟩ := h
  · cases h0
  · obtain rfl : g = g' := by simpa using he
    have hil := (List.getElem?_eq_some_iff.1 hi).1
    refine ⟨by simpa using h1, .inr ⟨g, cur.setIfInBounds (i * 2 + 1) (.int .i64 v), rfl, by simp [World.setCell, Array.getElem?_modify, h2], h3, by simpa using h4, fun j u hj => ?_⟩⟩
    have hjl := (List.getElem?_eq_some_iff.1 hj).1
    rw [ecells_length, List.length_set] at hjl
    have hq : j / 2 < l.length := by omega
    obtain ⟨g1, g2⟩ := ecells_get l (j / 2) l[j / 2] (List.getElem?_eq_getElem hq)
    obtain ⟨s1, s2⟩ := ecells_get (l.set i (e.1, v)) (j / 2) ((l.set i (e.1, v))[j / 2]'(by simpa using hq)) (List.getElem?_eq_getElem (by simpa using hq))
    rw [Array.getElem?_setIfInBounds]
    by_cases hqi : j / 2 = i
    · have hli : l[j / 2] = e := by
        have h' : l[j / 2]? = some e := by rw [hqi]; exact hi
        rw [List.getElem?_eq_getElem hq] at h'
        exact Option.some.inj h'
      have hset : (l.set i (e.1, v))[j / 2]'(by simpa using hq) = (e.1, v) := by rw [List.getElem_set, if_pos hqi.symm]
      rw [hset] at s1 s2
      rw [hli] at g1 g2
      rcases Nat.mod_two_eq_zero_or_one j with hm | hm
      · rw [if_neg (by omega)]
        have ej : j / 2 * 2 = j := by omega
        rw [ej] at s1 g1
        rw [h5 j _ g1, ← s1, hj]
      · have ej : j / 2 * 2 + 1 = j := by omega
        rw [ej] at s2
        rw [if_pos (by omega), if_pos (by omega), ← s2, hj]
    · have hset : (l.set i (e.1, v))[j / 2]'(by simpa using hq) = l[j / 2] := by rw [List.getElem_set, if_neg (fun e => hqi e.symm)]
      rw [hset] at s1 s2
      rcases Nat.mod_two_eq_zero_or_one j with hm | hm
      · rw [if_neg (by omega)]
        have ej : j / 2 * 2 = j := by omega
        rw [ej] at s1 g1
        rw [h5 j _ g1, ← s1, hj]
      · rw [if_neg (by omega)]
        have ej : j / 2 * 2 + 1 = j := by omega
        rw [ej] at s2 g2
        rw [h5 j _ g2, ← s2, hj]

/-- A weight brought between 1 and M. -/
def gmod (M : Int) (e : ByteArray × Int) : ByteArray × Int := (e.1, 1 + e.2 % M)
theorem gmod_names (M : Int) (l : List (ByteArray × Int)) : (l.map (gmod M)).map Prod.fst = l.map Prod.fst := by rw [List.map_map]; rfl
theorem gmod_short {M : Int} {l : List (ByteArray × Int)} (h : Short l) : Short (l.map (gmod M)) := fun e he => by
  obtain ⟨x, hx, rfl⟩ := List.mem_map.1 he
  exact h x hx
theorem gmod_wj {M : Int} (hM : 1 ≤ M) (hM2 : M ≤ 60000) (l : List (ByteArray × Int)) (j : Nat) (hj : j < l.length) : wj (l.map (gmod M)) j = 1 + (at' l j).2 % M ∧ (at' (l.map (gmod M)) j).2 = wj (l.map (gmod M)) j ∧ wj (l.map (gmod M)) j ≤ M := by
  have h0 := Int.emod_nonneg (at' l j).2 (show M ≠ 0 by omega)
  have h1 := Int.emod_lt_of_pos (at' l j).2 (show 0 < M by omega)
  have e : at' (l.map (gmod M)) j = gmod M (at' l j) := by
    rw [at_eq (by simpa using hj), at_eq hj]; simp
  unfold wj
  rw [e]
  have : wt (gmod M (at' l j)).2 = 1 + (at' l j).2 % M := by
    unfold wt gmod mx mn
    split <;> split <;> omega
  exact ⟨this, this.symm ▸ rfl, by omega⟩
end Go.Proofs.Ytlmppdpjjkdoaaa.Rot
