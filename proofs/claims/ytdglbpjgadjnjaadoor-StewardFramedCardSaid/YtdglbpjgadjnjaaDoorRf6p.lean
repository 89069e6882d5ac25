/- The document's fields: Parse. Own work of this seat; no condition but on lengths. -/
import Derived.Test.YtdglbpjgadjnjaaDoorRf5c
namespace Go.Proofs.YtdglbpjgadjnjaaDoor.Fie
open Go.RowKit Go.Proofs.YtdglbpjgadjnjaaDoor.Kit Go.Proofs.YtdglbpjgadjnjaaDoor.Oct Go.Proofs.YtdglbpjgadjnjaaDoor.Cut
set_option linter.unusedVariables false
set_option linter.unusedSimpArgs false

theorem no_step {s : ByteArray} {i : Nat} {x : UInt8} (hx : (bts s)[i]? = some x) (h0 : ∀ (j : Nat) (y : UInt8), j < i → (bts s)[j]? = some y → (y == 58) = false) (hp : (x == 58) = false) : ∀ (j : Nat) (y : UInt8), j < i + 1 → (bts s)[j]? = some y → (y == 58) = false := by
  intro j y hj hy
  by_cases e : j = i
  · subst e
    rw [hx] at hy
    cases hy
    exact hp
  · exact h0 j y (by omega) hy
theorem u8_58 (b : UInt8) : (b == 58) = ((b.toNat : Int) == 58) := u8_eq b 58 (by decide)
set_option maxRecDepth 100000 in
set_option maxHeartbeats 2000000 in
theorem rparse_calls (s : ByteArray) (hs : s.size ≤ 900000) (w : World) : Calls Tryd.prog 8 #[.string s] w fun e w' => e = .returned (.tuple #[.agg #[.string (pfN (parseF s)), .string (pfV (parseF s))], .int .i64 (pfE (parseF s))]) ∧ Step (fun _ => False) w w' := by
  obtain ⟨r, hr⟩ : ∃ r, parseF s = r := ⟨_, rfl⟩
  rw [hr]
  have HR := Lib.hid hr
  clear hr
  go_enter Tryd.func8, Tryd.ntmps8
  go_upto_region 1 with (fail)
  refine alloc_next (cs := [.string ⟨#[]⟩, .string ⟨#[]⟩]) ?_
  intro w1 hX hs1
  obtain ⟨xb, hxb⟩ : ∃ xb, w.heap.size = xb := ⟨_, rfl⟩
  rw [hxb] at hX ⊢
  have HXB := Lib.hid hxb
  clear hxb
  go_wp2
  go_loopw [4] (fun v4 wr => ∃ (i : Nat), v4 = .int .i64 (i : Int) ∧ i ≤ s.size ∧ (∀ (j : Nat) (y : UInt8), j < i → (bts s)[j]? = some y → (y == 58) = false) ∧ w1 = wr) (fun v _ => s.size - (intOf v).toNat)
  case atStart => exact ⟨0, rfl, Nat.zero_le _, fun j y hj => absurd hj (Nat.not_lt_zero _), rfl⟩
  case round =>
    obtain ⟨i, rfl, hi, hno0, rfl⟩ := hrel
    have hno := Lib.hid hno0
    clear hno0
    by_cases hin : i < s.size
    · have hin' : ((i : Int) < (s.size : Int)) := by omega
      have hg := bts_get hin
      have HN := Lib.hid (fun h => no_step hg hno.out h)
      have HH := Lib.hid (fun h => find_hit (· == (58 : UInt8)) hg h hno.out)
      have hq := (u8_58 s[i]).symm
      clear hg
      cases hc : (s[i] == 58) with
      | false =>
        rw [hc] at hq
        have HC := Lib.hid hc
        clear hc HH
        go_wp2
        go_roundw
        case rel => exact ⟨i + 1, by go_num, by omega, HN.out HC.out, by first | rfl | trivial⟩
        case measure => simp [intOf]; omega
      | true =>
        rw [hc] at hq
        have hcol : colon s = some i := HH.out hc
        have hpf : (if token (s.extract 0 i) = true ∧ value (trim (s.extract (i + 1) s.size)) = true then some (s.extract 0 i, trim (s.extract (i + 1) s.size)) else none) = r := by
          rw [← HR.out]; unfold parseF; rw [hcol]
        have hb2 : (0 : Int) ≤ (i : Int) + 1 := by omega
        have hb3 : (i : Int) + 1 ≤ (s.size : Int) := by omega
        have hb4 : (0 : Int) ≤ (i : Int) := by omega
        have hb5 : (i : Int) ≤ (s.size : Int) := by omega
        obtain ⟨n, hn⟩ : ∃ n, s.extract 0 i = n := ⟨_, rfl⟩
        obtain ⟨v, hv⟩ : ∃ v, s.extract (i + 1) s.size = v := ⟨_, rfl⟩
        have hns : n.size ≤ 900000 := by rw [← hn]; exact Nat.le_trans (ext_size s _ _ (by omega)) hs
        have hvs : v.size ≤ 900000 := by rw [← hv]; exact Nat.le_trans (ext_size s _ _ (by omega)) hs
        rw [hn, hv] at hpf
        have HT := Lib.hid (fun w => rtrim_calls v hvs w)
        have htv := trim_size v
        obtain ⟨u, hu⟩ : ∃ u, trim v = u := ⟨_, rfl⟩
        rw [hu] at HT htv hpf
        have HK := Lib.hid (fun w => rtoken_calls n hns w)
        have HV := Lib.hid (fun w => rvalue_calls u (by omega) w)
        clear hc HN HH HR hno hcol hu
        generalize token n = tk at *
        generalize value u = vl at *
        cases tk with
        | false =>
          rw [if_neg (by simp)] at hpf
          subst hpf
          go_wp2_with (first
            | (go_at_call 17; refine (HT.out _).mono ?_; rintro e w' ⟨rfl, rfl⟩)
            | (go_at_call 18; refine (HK.out _).mono ?_; rintro e w' ⟨rfl, rfl⟩)
            | (refine wpList_store_blk rfl 31 (.tmp 2) (.tmp 34) rfl hX rfl (vs := [.string ⟨#[]⟩, .string ⟨#[]⟩]) rfl (by kernel_rfl) rfl (cell2 _ _) ?_; intro w9 hX9 hs9))
          try simp only [Exit.inBlock, Exit.then]
          exact post_cell_tmp (cs := [.string ⟨#[]⟩, .string ⟨#[]⟩]) rfl rfl hX9 Tryd.underlying31 rfl (by kernel_rfl) rfl rfl ⟨rfl, hs1.trans hs9 (fun j hj e => by have := HXB.out; have : j = xb := e; omega)⟩
        | true =>
          cases vl with
          | false =>
            rw [if_neg (by simp)] at hpf
            subst hpf
            go_wp2_with (first
              | (go_at_call 17; refine (HT.out _).mono ?_; rintro e w' ⟨rfl, rfl⟩)
              | (go_at_call 18; refine (HK.out _).mono ?_; rintro e w' ⟨rfl, rfl⟩)
              | (go_at_call 19; refine (HV.out _).mono ?_; rintro e w' ⟨rfl, rfl⟩)
              | (refine wpList_store_blk rfl 31 (.tmp 2) (.tmp 34) rfl hX rfl (vs := [.string ⟨#[]⟩, .string ⟨#[]⟩]) rfl (by kernel_rfl) rfl (cell2 _ _) ?_; intro w9 hX9 hs9))
            try simp only [Exit.inBlock, Exit.then]
            exact post_cell_tmp (cs := [.string ⟨#[]⟩, .string ⟨#[]⟩]) rfl rfl hX9 Tryd.underlying31 rfl (by kernel_rfl) rfl rfl ⟨rfl, hs1.trans hs9 (fun j hj e => by have := HXB.out; have : j = xb := e; omega)⟩
          | true =>
            rw [if_pos (by simp)] at hpf
            subst hpf
            go_wp2_with (first
              | (go_at_call 17; refine (HT.out _).mono ?_; rintro e w' ⟨rfl, rfl⟩)
              | (go_at_call 18; refine (HK.out _).mono ?_; rintro e w' ⟨rfl, rfl⟩)
              | (go_at_call 19; refine (HV.out _).mono ?_; rintro e w' ⟨rfl, rfl⟩)
              | (refine wpList_store_blk rfl 31 (.tmp 2) (.tmp 33) rfl hX rfl (vs := [.string n, .string u]) rfl (by kernel_rfl) rfl (cell2 _ _) ?_; intro w9 hX9 hs9))
            try simp only [Exit.inBlock, Exit.then]
            exact post_cell_tmp (cs := [.string n, .string u]) rfl rfl hX9 Tryd.underlying31 rfl (by kernel_rfl) rfl rfl ⟨rfl, hs1.trans hs9 (fun j hj e => by have := HXB.out; have : j = xb := e; omega)⟩
    · have hin' : ¬ ((i : Int) < (s.size : Int)) := by omega
      have hcol : colon s = none := find_miss (· == (58 : UInt8)) (fun j y hj hy => hno.out j y (by rw [bts_len] at hj; omega) hy)
      obtain rfl : none = r := by rw [← HR.out]; unfold parseF; rw [hcol]
      clear HR hno hcol
      go_wp2_with (refine wpList_store_blk rfl 31 (.tmp 2) (.tmp 35) rfl hX rfl (vs := [.string ⟨#[]⟩, .string ⟨#[]⟩]) rfl (by kernel_rfl) rfl (cell2 _ _) ?_; intro w9 hX9 hs9)
      try simp only [Exit.inBlock, Exit.then]
      exact post_cell_tmp (cs := [.string ⟨#[]⟩, .string ⟨#[]⟩]) rfl rfl hX9 Tryd.underlying31 rfl (by kernel_rfl) rfl rfl ⟨rfl, hs1.trans hs9 (fun j hj e => by have := HXB.out; have : j = xb := e; omega)⟩
end Go.Proofs.YtdglbpjgadjnjaaDoor.Fie
