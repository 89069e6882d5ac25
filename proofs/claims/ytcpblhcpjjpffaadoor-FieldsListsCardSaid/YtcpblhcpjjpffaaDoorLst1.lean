/- The document's octets: List. Own work of this seat; no condition but on lengths. -/
import Derived.Test.YtcpblhcpjjpffaaDoorSpl3
namespace Go.Proofs.YtcpblhcpjjpffaaDoor.Fie
open Go.RowKit Go.Proofs.YtcpblhcpjjpffaaDoor.Kit Go.Proofs.YtcpblhcpjjpffaaDoor.Oct Go.Proofs.YtcpblhcpjjpffaaDoor.Cut
set_option linter.unusedVariables false
set_option linter.unusedSimpArgs false

def oneB (u : ByteArray) : List ByteArray := if 0 < u.size then [u] else []
theorem keepP_cons (p : List UInt8) (ps : List (List UInt8)) : keepP (p :: ps) = oneB (trim (ofL p)) ++ keepP ps := by
  unfold keepP oneB
  rw [List.map_cons, List.filter_cons]
  by_cases h : 0 < (trim (ofL p)).size <;> simp [h]
theorem keepP_len (ps : List (List UInt8)) : (keepP ps).length ≤ ps.length := by
  unfold keepP
  exact Nat.le_trans (List.length_filter_le _ _) (by rw [List.length_map]; exact Nat.le_refl _)
theorem listB_take {l : List ByteArray} {i : Nat} {x : ByteArray} (h : l[i]? = some x) : listB (l.take (i + 1)) = listB (l.take i) ++ keepP (splitC (bts x)) := by
  unfold listB
  rw [List.take_add_one, h]
  simp
theorem listB_len {l : List ByteArray} (hl : ∀ x ∈ l, x.size ≤ 1000) : ∀ i, i ≤ l.length → (listB (l.take i)).length ≤ i * 1001 := by
  intro i
  induction i with
  | zero => intro _; simp [listB]
  | succ i ih =>
    intro hi
    have hget : l[i]? = some l[i] := List.getElem?_eq_getElem (by omega)
    have hx := hl l[i] (List.getElem_mem (by omega))
    have h1 := keepP_len (splitC (bts l[i]))
    have h2 := splitC_len (bts l[i])
    rw [bts_len] at h2
    have := ih (by omega)
    rw [listB_take hget, List.length_append]
    omega
/-- Where the document stands in a text v: from f on nothing is taken, i is looked at, O came. -/
def SC (v : ByteArray) (f i : Nat) (O : List ByteArray) : Prop :=
  i ≤ v.size ∧ f ≤ i ∧ (∀ (j : Nat) (x : UInt8), f ≤ j → j < i → (bts v)[j]? = some x → (x == 44) = false) ∧ keepP (splitC (bts v)) = O ++ keepP (splitC ((bts v).drop f))
theorem sc_start (v : ByteArray) : SC v 0 0 [] := ⟨Nat.zero_le _, Nat.le_refl _, fun j x _ h => absurd h (Nat.not_lt_zero _), rfl⟩
theorem sc_next {v : ByteArray} {f i : Nat} {O : List ByteArray} (h : SC v f i O) (hi : i < v.size) (hx : (v[i] == 44) = false) : SC v f (i + 1) O := by
  obtain ⟨h1, h2, h3, h4⟩ := h
  refine ⟨by omega, by omega, fun j x hf hj hjx => ?_, h4⟩
  by_cases e : j = i
  · subst e
    rw [bts_get hi] at hjx
    cases hjx
    exact hx
  · exact h3 j x hf (by omega) hjx
theorem ext_ofL (v : ByteArray) (f i : Nat) : ofL (((bts v).drop f).take (i - f)) = v.extract f i := bts_inj (by rw [bts_ofL, bts_ext])
theorem sc_comma {v : ByteArray} {f i : Nat} {O : List ByteArray} (h : SC v f i O) (hi : i < v.size) (hx : (v[i] == 44) = true) : SC v (i + 1) (i + 1) (O ++ oneB (trim (v.extract f i))) := by
  obtain ⟨h1, h2, h3, h4⟩ := h
  refine ⟨by omega, Nat.le_refl _, fun j x hf hj => by omega, ?_⟩
  have hfi : ((bts v).drop f).findIdx? (· == (44 : UInt8)) = some (i - f) := by
    refine find_hit (· == (44 : UInt8)) (x := v[i]) ?_ hx ?_
    · rw [List.getElem?_drop, show f + (i - f) = i by omega, bts_get hi]
    · intro j y hj hy
      rw [List.getElem?_drop] at hy
      exact h3 (f + j) y (by omega) (by omega) hy
  rw [h4, splitC_first hfi, keepP_cons, ext_ofL, List.drop_drop, List.append_assoc, show f + (i - f + 1) = i + 1 by omega]
theorem sc_last {v : ByteArray} {f : Nat} {O : List ByteArray} (h : SC v f v.size O) : keepP (splitC (bts v)) = O ++ oneB (trim (v.extract f v.size)) := by
  obtain ⟨h1, h2, h3, h4⟩ := h
  have hfi : ((bts v).drop f).findIdx? (· == (44 : UInt8)) = none := by
    refine find_miss (· == (44 : UInt8)) ?_
    intro j y hj hy
    rw [List.length_drop, bts_len] at hj
    rw [List.getElem?_drop] at hy
    exact h3 (f + j) y (by omega) (by omega) hy
  have e : (bts v).drop f = ((bts v).drop f).take (v.size - f) := (List.take_of_length_le (by rw [List.length_drop, bts_len]; exact Nat.le_refl _)).symm
  rw [h4, splitC_last hfi, keepP_cons]
  conv => lhs; rw [e, ext_ofL]
  simp [keepP]
theorem sc_len {v : ByteArray} {f i : Nat} {O : List ByteArray} (h : SC v f i O) : O.length ≤ v.size + 1 := by
  have h1 := congrArg List.length h.2.2.2
  have h2 := keepP_len (splitC (bts v))
  have h3 := splitC_len (bts v)
  rw [bts_len] at h3
  rw [List.length_append] at h1
  omega
theorem u8_44 (b : UInt8) : ((b.toNat : Int) != 44) = !(b == 44) := by
  rw [show (b == 44) = ((b.toNat : Int) == 44) from u8_eq b 44 (by decide)]
  rfl
set_option maxRecDepth 100000 in
set_option maxHeartbeats 4000000 in
theorem rlist_calls {w : World} {A : Option Addr} {n c : Nat} {l : List ByteArray} (h : SRd w A n l) (hn : n ≤ 100) (hl : ∀ x ∈ l, x.size ≤ 1000) :
    Calls Tryd.prog 71 #[.slice A n c] w fun e w' => ∃ A' m c', e = .returned (.slice A' m c') ∧ SW w' A' m c' (listB l) ∧ Step (fun _ => False) w w' ∧ (∀ j, blockOf A' = some j → w.heap.size ≤ j) := by
  have hln := h.len
  have HH := Lib.hid h
  have HL := Lib.hid hl
  have HBL := Lib.hid (listB_len hl)
  obtain ⟨r, hr⟩ : ∃ r, listB l = r := ⟨_, rfl⟩
  rw [hr]
  have HR := Lib.hid hr
  clear h hl hr
  go_enter Tryd.func71, Tryd.ntmps71
  go_wp2
  go_loopw [3, 12] (fun v3 v12 wr => ∃ (k m : Nat) (B : Option Addr) (cB : Nat), v12 = .int .i64 (k : Int) ∧ v3 = .slice B m cB ∧ k ≤ n ∧ SW wr B m cB (listB (l.take k)) ∧ Step (fun _ => False) w wr ∧ (∀ j, blockOf B = some j → w.heap.size ≤ j)) (fun _ v _ => n - (intOf v).toNat)
  case atStart => exact ⟨0, 0, _, _, rfl, rfl, Nat.zero_le _, sw_empty w, (Step.refl _ _).alloc _, fun j hj => by have : w.heap.size = j := Option.some.inj hj; omega⟩
  case round =>
    obtain ⟨k, m, B, cB, rfl, rfl, hk, hF, hst, hf⟩ := hrel
    by_cases hkn : k < n
    · have hkn' : ((k : Int) < (n : Int)) := by omega
      have hR := HH.out.same hst
      obtain ⟨g, o, rfl⟩ := RSeg.isSome hR (by omega) (by omega)
      have hget : l[k]? = some l[k] := List.getElem?_eq_getElem (by omega)
      have a0 := SRd.cells hR hget
      have HTK := Lib.hid (listB_take hget)
      have hsz := HL.out l[k] (List.getElem_mem (by omega))
      have hbl := HBL.out k (by omega)
      have hbl' : (listB (l.take k)).length ≤ 100100 := by omega
      generalize l[k] = v at *
      have hlen := hF.len
      have HF := Lib.hid (And.intro hF (And.intro hf hst))
      have HTO := Lib.hid (fun (u : ByteArray) (hu : u.size ≤ 900000) (w : World) => rtrim_calls u hu w)
      clear hR hget hF hf HBL HL
      go_wp2
      go_loopw [3, 6, 7] (fun v3 v6 v7 wx => ∃ (i f m' : Nat) (B' : Option Addr) (cB' : Nat) (O : List ByteArray), v7 = .int .i64 (i : Int) ∧ v6 = .int .i64 (f : Int) ∧ v3 = .slice B' m' cB' ∧ SW wx B' m' cB' (listB (l.take k) ++ O) ∧ Step (fun _ => False) w wx ∧ (∀ j, blockOf B' = some j → w.heap.size ≤ j) ∧ i ≤ v.size + 1 ∧ (SC v f i O ∨ (i = v.size + 1 ∧ keepP (splitC (bts v)) = O))) (fun _ _ v7 _ => v.size + 1 - (intOf v7).toNat)
      case atStart => exact ⟨0, 0, m, B, cB, [], rfl, rfl, rfl, by rw [List.append_nil]; exact HF.out.1, HF.out.2.2, HF.out.2.1, Nat.zero_le _, .inl (sc_start v)⟩
      case round =>
        clear hst hlen hbl
        obtain ⟨i, f, m', B', cB', O, rfl, rfl, rfl, hF', hst', hf', hi, hsc⟩ := hrel
        have hlen' := hF'.len
        rw [List.length_append] at hlen'
        by_cases hiv : i ≤ v.size
        · have hiv' : ((i : Int) ≤ (v.size : Int)) := by omega
          have hsc : SC v f i O := by
            rcases hsc with h | h
            · exact h
            · omega
          have hol := sc_len hsc
          have hfi := hsc.2.1
          have HSC := Lib.hid hsc
          have HF' := Lib.hid (And.intro hF' (And.intro hf' hst'))
          have hzw := hst'.size
          clear hsc hF' hf' hst' HF
          by_cases hc : i < v.size ∧ ¬ (if h : i < v.size then (v[i] == 44) else false) = true
          · obtain ⟨hiv2, hne⟩ := hc
            rw [dif_pos hiv2] at hne
            have hne' : (v[i] == 44) = false := by cases h : (v[i] == 44) with | true => exact absurd h hne | false => rfl
            have q1 : ((i : Int) < (v.size : Int)) := by omega
            have q2 := u8_44 v[i]
            rw [hne'] at q2
            have HNE := Lib.hid hne'
            clear hne hne'
            go_wp2
            go_roundw
            case rel => exact ⟨i + 1, f, m', B', cB', O, by go_num, rfl, rfl, HF'.out.1, HF'.out.2.2, HF'.out.2.1, by omega, .inl (sc_next HSC.out hiv2 HNE.out)⟩
            case measure => simp [intOf]; omega
          · obtain ⟨u0, hu0⟩ : ∃ u0, v.extract f i = u0 := ⟨_, rfl⟩
            have hu0s : u0.size ≤ 900000 := by rw [← hu0, ByteArray.size_extract]; omega
            have HT := Lib.hid (fun w => HTO.out u0 hu0s w)
            have hb1 : (0 : Int) ≤ (f : Int) := by omega
            have hb2 : (f : Int) ≤ (i : Int) := by omega
            have hnx : (i < v.size ∧ SC v (i + 1) (i + 1) (O ++ oneB (trim u0)) ∧ (∀ h : i < v.size, (v[i] == 44) = true)) ∨ (i = v.size ∧ keepP (splitC (bts v)) = O ++ oneB (trim u0)) := by
              by_cases hiv2 : i < v.size
              · have hx : (v[i] == 44) = true := by
                  cases h : (v[i] == 44) with
                  | true => rfl
                  | false => exact absurd ⟨hiv2, by rw [dif_pos hiv2, h]; simp⟩ hc
                exact .inl ⟨hiv2, by rw [← hu0]; exact sc_comma HSC.out hiv2 hx, fun _ => hx⟩
              · obtain rfl : i = v.size := by omega
                exact .inr ⟨rfl, by rw [← hu0]; exact sc_last HSC.out⟩
            obtain ⟨u, hu⟩ : ∃ u, trim u0 = u := ⟨_, rfl⟩
            rw [hu] at HT hnx
            have HU0 := Lib.hid hu0
            clear hc hu HTO HSC hu0s
            rcases hnx with ⟨hiv2, hs2, hx⟩ | ⟨hie, hs2⟩
            · have q1 : ((i : Int) < (v.size : Int)) := by omega
              have q2 := u8_44 v[i]
              rw [hx hiv2] at q2
              have HS2 := Lib.hid hs2
              clear hs2 hx
              by_cases h0 : 0 < u.size
              · have hne := ne_e h0
                have hone : oneB u = [u] := by unfold oneB; rw [if_pos h0]
                obtain ⟨B5, c5, w5, hap, hB5, hf5, hs5⟩ := app_st_one HF'.out.1 (by omega) u
                have HX := Lib.hid (And.intro hB5 (And.intro hf5 (And.intro hs5 hone)))
                clear hB5 hf5 hs5 hone
                go_wp2_with (first
                  | (go_at_call 48; refine (HT.out _).mono ?_; rintro e w' ⟨rfl, rfl⟩)
                  | (at_builtin; refine wpList_app1 (by rfl) (.tmp 39) (.tmp 41) 35 (by rfl) (by rfl) (by rfl) hap ?_))
                go_roundw
                case rel =>
                  obtain ⟨hB5, hf5, hs5, hone⟩ := HX.out
                  obtain ⟨hF', hf', hst'⟩ := HF'.out
                  exact ⟨i + 1, i + 1, m' + 1, B5, c5, O ++ [u], by go_num, by go_num, rfl, by rw [← List.append_assoc]; exact hB5, hst'.trans hs5 (fun j hj h => by have := hf' _ h; omega), fun j hj => (hf5 j hj).elim (hf' j) (fun h => by omega), by omega, .inl (by rw [← hone]; exact HS2.out)⟩
                case measure => simp [intOf]; omega
              · obtain rfl := ba_eq (show u.size = 0 by omega)
                have hne := nil_list
                go_wp2_with (go_at_call 48; refine (HT.out _).mono ?_; rintro e w' ⟨rfl, rfl⟩)
                go_roundw
                case rel =>
                  obtain ⟨hF', hf', hst'⟩ := HF'.out
                  exact ⟨i + 1, i + 1, m', B', cB', O, by go_num, by go_num, rfl, hF', hst', hf', by omega, .inl (by have h := HS2.out; rw [show oneB ⟨#[]⟩ = [] from rfl, List.append_nil] at h; exact h)⟩
                case measure => simp [intOf]; omega
            · have q1 : ¬ ((i : Int) < (v.size : Int)) := by omega
              have HS2 := Lib.hid hs2
              have HIE := Lib.hid hie
              clear hs2 hie
              by_cases h0 : 0 < u.size
              · have hne := ne_e h0
                have hone : oneB u = [u] := by unfold oneB; rw [if_pos h0]
                obtain ⟨B5, c5, w5, hap, hB5, hf5, hs5⟩ := app_st_one HF'.out.1 (by omega) u
                have HX := Lib.hid (And.intro hB5 (And.intro hf5 (And.intro hs5 hone)))
                clear hB5 hf5 hs5 hone
                go_wp2_with (first
                  | (go_at_call 48; refine (HT.out _).mono ?_; rintro e w' ⟨rfl, rfl⟩)
                  | (at_builtin; refine wpList_app1 (by rfl) (.tmp 39) (.tmp 41) 35 (by rfl) (by rfl) (by rfl) hap ?_))
                go_roundw
                case rel =>
                  obtain ⟨hB5, hf5, hs5, hone⟩ := HX.out
                  obtain ⟨hF', hf', hst'⟩ := HF'.out
                  exact ⟨i + 1, i + 1, m' + 1, B5, c5, O ++ [u], by go_num, by go_num, rfl, by rw [← List.append_assoc]; exact hB5, hst'.trans hs5 (fun j hj h => by have := hf' _ h; omega), fun j hj => (hf5 j hj).elim (hf' j) (fun h => by omega), by omega, .inr ⟨by rw [HIE.out], by rw [← hone]; exact HS2.out⟩⟩
                case measure => simp [intOf]; omega
              · obtain rfl := ba_eq (show u.size = 0 by omega)
                have hne := nil_list
                go_wp2_with (go_at_call 48; refine (HT.out _).mono ?_; rintro e w' ⟨rfl, rfl⟩)
                go_roundw
                case rel =>
                  obtain ⟨hF', hf', hst'⟩ := HF'.out
                  exact ⟨i + 1, i + 1, m', B', cB', O, by go_num, by go_num, rfl, hF', hst', hf', by omega, .inr ⟨by rw [HIE.out], by have h := HS2.out; rw [show oneB ⟨#[]⟩ = [] from rfl, List.append_nil] at h; exact h⟩⟩
                case measure => simp [intOf]; omega
        · have hiv' : ¬ ((i : Int) ≤ (v.size : Int)) := by omega
          have hfin : keepP (splitC (bts v)) = O := by
            rcases hsc with h | h
            · exact absurd h.1 hiv
            · exact h.2
          rw [← hfin, ← HTK.out] at hF'
          have HF' := Lib.hid (And.intro hF' (And.intro hf' hst'))
          clear hF' hf' hst' hsc hfin HF hlen'
          go_wp2
          go_roundw
          case rel => exact ⟨k + 1, m', B', cB', by go_num, rfl, by omega, HF'.out.1, HF'.out.2.2, HF'.out.2.1⟩
          case measure => simp [intOf]; omega
    · have hkn' : ¬ ((k : Int) < (n : Int)) := by omega
      obtain rfl : k = n := by omega
      rw [show listB (l.take k) = r by rw [← hln, List.take_length]; exact HR.out] at hF
      have HX := Lib.hid (And.intro hF hf)
      clear hF hf
      go_wp2
      go_ret
      exact ⟨B, m, cB, rfl, HX.out.1, hst, HX.out.2⟩
end Go.Proofs.YtcpblhcpjjpffaaDoor.Fie
