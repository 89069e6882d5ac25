/- agenda: Pop and Remove of the library's heap, over the pile. Own work of this seat. -/
import Derived.Test.YtgohlbljdffelaaAgFInt
namespace Go.Proofs.Ytgohlbljdffelaa.AgInt
open Go.RowKit Go.Proofs.Ytgohlbljdffelaa.Kit Go.Proofs.Ytgohlbljdffelaa.Cmp Go.Proofs.Ytgohlbljdffelaa.HeapP
set_option linter.unusedVariables false
set_option linter.unusedSimpArgs false

theorem lg_take {ys : List It} {m k : Nat} (hk : k < m) (hm : m ≤ ys.length) : lg (ys.take m) k = lg ys k := by
  rw [lg_get (by rw [List.length_take]; omega), lg_get (by omega), List.getElem_take]
theorem take_last {ys : List It} {m : Nat} (h : ys.length = m + 1) : ys = ys.take m ++ [lg ys m] := by
  rw [lg_get (by omega), List.take_append_getElem (by omega), List.take_of_length_le (by omega)]
/-- What Pop and Remove end in: the last one goes. -/
theorem last_off {w : World} {a : Nat} {M : Value} {turn : Int} {A : Option Addr} {c : Nat} {xs zs : List It} {m i : Nat} (hl : xs.length = m + 1) (hp : zs.Perm xs) (hz : lg zs m = lg xs i) (hh : HeapG le (lg zs) m) : (lg xs i :: zs.take m).Perm xs ∧ HeapG le (lg (zs.take m)) m := by
  have hzl : zs.length = m + 1 := by rw [hp.length_eq]; exact hl
  refine ⟨?_, heap_ext hh (fun k hk => lg_take hk (by omega))⟩
  rw [← hz]
  have h1 : (lg zs m :: zs.take m).Perm (zs.take m ++ [lg zs m]) := (List.perm_append_singleton _ _).symm
  rw [← take_last hzl] at h1
  exact h1.trans hp

set_option maxRecDepth 100000 in
set_option maxHeartbeats 1000000 in
theorem hpop_calls {w : World} {a : Nat} {M : Value} {turn : Int} {A : Option Addr} {c : Nat} {xs : List It} (h : HM w a M turn A c xs) {m : Nat} (hl : xs.length = m + 1) (hmax : m ≤ 100000) (hh : HeapG le (lg xs) xs.length) :
    Calls Try.prog 35 #[.iface 78 (.pointer (some ⟨a, 0, none⟩))] w fun e w' => e = .returned (.iface 73 (ptr (lg xs 0))) ∧ ∃ ys, HM w' a M turn A c ys ∧ (lg xs 0 :: ys).Perm xs ∧ HeapG le (lg ys) ys.length ∧ (∃ p, Blk w' (lg xs 0).blk 76 (icells (lg xs 0) p)) ∧ Step (fun k => k = a ∨ foot A xs k) w w' := by
  have c0 := h.cell0
  rw [hl] at c0
  have hm1 := meth_len c0
  have hm2 := meth_swap c0
  have n1 := fun w => nil_len a w
  have n2 := fun w => nil_swap a w
  have n3 := fun w => nil_pop a w
  have hm3 := fun w => meth_pop a w
  have ecast : ((m + 1 : Nat) : Int) - 1 = ((m : Nat) : Int) := by omega
  have hlg := lg_sw (i := 0) (j := m) (xs := xs) (by omega) (by omega)
  have hbad : Bad1 le (lg (sw xs 0 m)) 0 m := by
    rw [hlg]
    rw [hl] at hh
    rcases Nat.eq_zero_or_pos m with e | e
    · subst e
      exact ⟨fun k k0 k1 => absurd k1 (by omega), fun k k0 k1 => absurd k1 (by omega)⟩
    · exact remove_bad le_tr e hh
  have hlast : lg (sw xs 0 m) m = lg xs 0 := by rw [hlg, swp_r]
  have HSW := swap_calls h (i := 0) (j := m) (by omega) (by omega)
  have hsl := sw_length xs 0 m
  have hsp := sw_perm (xs := xs) (i := 0) (j := m) (by omega) (by omega)
  rw [hl] at HSW hsl
  have HSL := Lib.hid hsl
  have HB := Lib.hid hbad
  have HD0 := Lib.hid (fun w1 (h1 : HM w1 a M turn A c (sw xs 0 m)) => down_calls h1 (i0 := 0) (n := m) (by omega) (by omega) (by omega) HB.out)
  have HL := Lib.hid hl
  have HLA := Lib.hid hlast
  have HP0 := Lib.hid (fun w1 (ys : List It) (h1 : HM w1 a M turn A c ys) (hp : ys.Perm (sw xs 0 m)) => pop_calls h1 (m := m) (by rw [hp.length_eq, HSL.out]) (by omega))
  clear h hh hlg hbad hlast hl hsl
  go_enter Try.func35, Try.ntmps35
  go_wp2_with (first | (go_at_call 128; refine (len_calls _ _ _ _).mono ?_; rintro e w' ⟨rfl, rfl⟩) | (go_at_call 130; refine HSW.mono ?_; rintro e w1 ⟨rfl, h1, hs1⟩) | (go_at_call 58; refine (HD0.out _ h1).mono ?_; rintro e w2 ⟨b, ys, rfl, hys, hpm, hrest, hT, hF, hs2⟩; have HT := Lib.hid hT; have HF := Lib.hid hF; have HR := Lib.hid hrest; clear hT hF hrest) | (go_at_call 131; refine (HP0.out _ _ hys hpm).mono ?_; rintro e w3 ⟨rfl, h3, hs3⟩))
  have hpx := hpm.trans hsp
  have hlz : lg ys m = lg xs 0 := by rw [HR.out m (Nat.le_refl _), HLA.out]
  have hyl : ys.length = m + 1 := by rw [hpx.length_eq]; exact HL.out
  have hhz : HeapG le (lg ys) m := by
    cases b with
    | true => exact HT.out rfl
    | false =>
      obtain ⟨e1, e2⟩ := HF.out rfl
      rw [e1]
      exact stop HB.out e2 (fun h => absurd h (by omega))
  obtain ⟨q1, q2⟩ := last_off (w := w) (a := a) (M := M) (turn := turn) (A := A) (c := c) HL.out hpx hlz hhz
  rw [hlz]
  go_ret
  refine ⟨rfl, ys.take m, h3, q1, by rw [List.length_take, hyl, Nat.min_eq_left (by omega)]; exact q2, ⟨m, ?_⟩, (((hs1.mono (fun _ _ h => .inr h)).same (hs2.mono (fun k _ h => .inr ((foot_perm hsp k).1 h))))).same (hs3.mono (fun _ _ h => .inl h))⟩
  have hz := hys.itm m (lg ys m) (get_lg (by omega))
  rw [hlz] at hz
  exact hz.keep hs3 (fun e => (hys.na _ (List.mem_of_getElem? (get_lg (xs := ys) (k := m) (by omega)))).1 (by rw [hlz]; exact e))

set_option maxRecDepth 100000 in
set_option maxHeartbeats 1000000 in
theorem hremove_calls {w : World} {a : Nat} {M : Value} {turn : Int} {A : Option Addr} {c : Nat} {xs : List It} (h : HM w a M turn A c xs) {m i : Nat} (hl : xs.length = m + 1) (hi : i ≤ m) (hmax : m ≤ 100000) (hh : HeapG le (lg xs) xs.length) :
    Calls Try.prog 60 #[.iface 78 (.pointer (some ⟨a, 0, none⟩)), .int .i64 (i : Int)] w fun e w' => e = .returned (.iface 73 (ptr (lg xs i))) ∧ ∃ ys, HM w' a M turn A c ys ∧ (lg xs i :: ys).Perm xs ∧ HeapG le (lg ys) ys.length ∧ Step (fun k => k = a ∨ foot A xs k) w w' := by
  have c0 := h.cell0
  rw [hl] at c0
  have hm1 := meth_len c0
  have hm2 := meth_swap c0
  have n1 := fun w => nil_len a w
  have n2 := fun w => nil_swap a w
  have n3 := fun w => nil_pop a w
  have hm3 := fun w => meth_pop a w
  have ecast : ((m + 1 : Nat) : Int) - 1 = ((m : Nat) : Int) := by omega
  have HL := Lib.hid hl
  by_cases him : i = m
  · subst him
    have q0 : ((i : Int) != (i : Int)) = false := by simp
    have HP0 := pop_calls h (m := i) hl (by omega)
    obtain ⟨q1, q2⟩ := last_off (w := w) (a := a) (M := M) (turn := turn) (A := A) (c := c) hl (List.Perm.refl xs) rfl (by rw [hl] at hh; exact shrink hh (by omega))
    have HQ := Lib.hid q2
    clear h hh hl q2
    go_enter Try.func60, Try.ntmps60
    go_wp2_with (first | (go_at_call 128; refine (len_calls _ _ _ _).mono ?_; rintro e w' ⟨rfl, rfl⟩) | (go_at_call 131; refine HP0.mono ?_; rintro e w3 ⟨rfl, h3, hs3⟩))
    go_ret
    exact ⟨rfl, xs.take i, h3, q1, by rw [List.length_take, HL.out, Nat.min_eq_left (by omega)]; exact HQ.out, hs3.mono (fun _ _ h => .inl h)⟩
  · have q0 : ((m : Int) != (i : Int)) = true := by simp; omega
    have q0' : ((m : Int) == (i : Int)) = false := by simp; omega
    have hlg := lg_sw (i := i) (j := m) (xs := xs) (by omega) (by omega)
    have hbad : Bad1 le (lg (sw xs i m)) i m := by
      rw [hlg]
      rw [hl] at hh
      exact remove_bad le_tr (by omega) hh
    have hlast : lg (sw xs i m) m = lg xs i := by rw [hlg, swp_r]
    have HSW := swap_calls h (i := i) (j := m) (by omega) (by omega)
    have hsl := sw_length xs i m
    have hsp := sw_perm (xs := xs) (i := i) (j := m) (by omega) (by omega)
    rw [hl] at HSW hsl
    have HSL := Lib.hid hsl
    have HB := Lib.hid hbad
    have HD0 := Lib.hid (fun w1 (h1 : HM w1 a M turn A c (sw xs i m)) => down_calls h1 (i0 := i) (n := m) (by omega) (by omega) (by omega) HB.out)
    have HLA := Lib.hid hlast
    have HP0 := Lib.hid (fun w1 (ys : List It) (h1 : HM w1 a M turn A c ys) (hp : ys.Perm (sw xs i m)) => pop_calls h1 (m := m) (by rw [hp.length_eq, HSL.out]) (by omega))
    have HU := Lib.hid (fun w1 (ys : List It) (hy : HM w1 a M turn A c ys) (hp : ys = sw xs i m) (hk : KidsOk le (lg (sw xs i m)) i m) => up_calls (hp ▸ hy) (j := i) (n := m) (by omega) (by omega) (by omega) HB.out hk)
    have hil : i < m := by omega
    clear h hh hlg hbad hlast hl hsl
    go_enter Try.func60, Try.ntmps60
    go_wp2_with (first | (go_at_call 128; refine (len_calls _ _ _ _).mono ?_; rintro e w' ⟨rfl, rfl⟩) | (go_at_call 130; refine HSW.mono ?_; rintro e w1 ⟨rfl, h1, hs1⟩) | (go_at_call 58; refine (HD0.out _ h1).mono ?_; rintro e w2 ⟨b, ys, rfl, hys, hpm, hrest, hT, hF, hs2⟩; have HT := Lib.hid hT; have HF := Lib.hid hF; have HR := Lib.hid hrest; clear hT hF hrest) | (go_at_call 59; refine (HU.out _ _ hys (HF.out (by first | assumption | simp_all)).1 (HF.out (by first | assumption | simp_all)).2).mono ?_; rintro e w4 ⟨rfl, zs, hzs, hpm2, hh2, hr2, hs4⟩; have HR2 := Lib.hid hr2; clear hr2) | (go_at_call 131; first | (refine (HP0.out _ _ hzs hpm2).mono ?_; rintro e w3 ⟨rfl, h3, hs3⟩) | (refine (HP0.out _ _ hys hpm).mono ?_; rintro e w3 ⟨rfl, h3, hs3⟩)))
    · have hpx := hpm2.trans hsp
      have hlz : lg zs m = lg xs i := by rw [HR2.out m (Nat.le_refl _), HLA.out]
      have hyl : zs.length = m + 1 := by rw [hpx.length_eq]; exact HL.out
      obtain ⟨q1, q2⟩ := last_off (w := w) (a := a) (M := M) (turn := turn) (A := A) (c := c) HL.out hpx hlz hh2
      rw [hlz]
      go_ret
      exact ⟨rfl, zs.take m, h3, q1, by rw [List.length_take, hyl, Nat.min_eq_left (by omega)]; exact q2, ((((hs1.mono (fun _ _ h => .inr h)).same (hs2.mono (fun k _ h => .inr ((foot_perm hsp k).1 h))))).same (hs4.mono (fun k _ h => .inr ((foot_perm hsp k).1 h)))).same (hs3.mono (fun _ _ h => .inl h))⟩
    · have hb : b = true := by simp_all
      have hhz := HT.out hb
      have hpx := hpm.trans hsp
      have hlz : lg ys m = lg xs i := by rw [HR.out m (Nat.le_refl _), HLA.out]
      have hyl : ys.length = m + 1 := by rw [hpx.length_eq]; exact HL.out
      obtain ⟨q1, q2⟩ := last_off (w := w) (a := a) (M := M) (turn := turn) (A := A) (c := c) HL.out hpx hlz hhz
      rw [hlz]
      go_ret
      exact ⟨rfl, ys.take m, h3, q1, by rw [List.length_take, hyl, Nat.min_eq_left (by omega)]; exact q2, (((hs1.mono (fun _ _ h => .inr h)).same (hs2.mono (fun k _ h => .inr ((foot_perm hsp k).1 h))))).same (hs3.mono (fun _ _ h => .inl h))⟩
end Go.Proofs.Ytgohlbljdffelaa.AgInt
