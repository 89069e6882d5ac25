/- fields: Parse, Line, is. Own work of this seat; no condition but on lengths. -/
import Derived.Test.YtdglbpjgadjnjaaDoorOct3
import Derived.Test.YtdglbpjgadjnjaaDoorCut
import Derived.Test.YtdglbpjgadjnjaaDoorRSeg
import Derived.Deep.QuietTactic
import Derived.BigQuiet
import Derived.Deep.RegionHeld3
namespace Go.Proofs.YtdglbpjgadjnjaaDoor.Fie
open Go.RowKit Go.Proofs.YtdglbpjgadjnjaaDoor.Kit Go.Proofs.YtdglbpjgadjnjaaDoor.Oct Go.Proofs.YtdglbpjgadjnjaaDoor.Cut
set_option linter.unusedVariables false
set_option linter.unusedSimpArgs false

theorem ixb_find (c : UInt8) : ∀ l : List UInt8, Lib.indexByte l c = match l.findIdx? (· == c) with | none => -1 | some i => (i : Int)
  | [] => rfl
  | b :: l => by
    unfold Lib.indexByte
    rw [List.findIdx?_cons, ixb_find c l]
    cases hb : (b == c) with
    | true => rfl
    | false =>
      cases hf : l.findIdx? (· == c) with
      | none => rfl
      | some i =>
        simp
def colon (s : ByteArray) : Option Nat := (bts s).findIdx? (· == 58)
theorem colon_lt {s : ByteArray} {i : Nat} (h : colon s = some i) : i < s.size := by
  unfold colon at h
  rw [List.findIdx?_eq_some_iff_getElem] at h
  obtain ⟨h1, _⟩ := h
  rw [bts_len] at h1
  exact h1
theorem colon_ix (s : ByteArray) : Lib.indexByte s.data.toList 58 = match colon s with | none => -1 | some i => (i : Int) := ixb_find 58 (bts s)
theorem toList_eq_of (a b : ByteArray) (h : (a.toList == b.toList) = true) : a = b := by
  rw [ByteArray.toList_eq, ByteArray.toList_eq] at h
  have h2 : a.data = b.data := by simpa using h
  cases a; cases b
  simp only at h2
  rw [h2]
set_option maxRecDepth 100000 in
theorem index_calls (s : ByteArray) (w : World) : Calls Tryd.prog 37 #[.string s, .string ⟨#[58]⟩] w fun e w' => e = .returned (.int .i64 (Lib.indexByte s.data.toList 58)) ∧ w = w' := by
  have HI := Lib.hid (fun w => slixb_calls s 58 w)
  rw [show ((58 : Int).toNat.toUInt8) = 58 from rfl] at HI
  cases he : (([58] : List UInt8) == s.toList) with
  | true =>
    obtain rfl := toList_eq_of ⟨#[58]⟩ s (by rw [ByteArray.toList_eq]; exact he)
    have e0 : Lib.indexByte (⟨#[58]⟩ : ByteArray).data.toList 58 = 0 := rfl
    rw [e0]
    clear HI e0
    go_enter Tryd.func37, Tryd.ntmps37
    go_wp2
    go_ret
    exact ⟨rfl, rfl⟩
  | false =>
    generalize Lib.indexByte s.data.toList 58 = r at *
    go_enter Tryd.func37, Tryd.ntmps37
    go_wp2_with (go_at_call 47; refine (HI.out _).mono ?_; rintro e w' ⟨rfl, rfl⟩)
    go_ret
    exact ⟨rfl, rfl⟩
def cutV (s : ByteArray) : Value := match colon s with
  | none => .tuple #[.string s, .string ⟨#[]⟩, .bool false]
  | some i => .tuple #[.string (s.extract 0 i), .string (s.extract (i + 1) s.size), .bool true]
set_option maxRecDepth 100000 in
theorem slcut_calls (s : ByteArray) (hs : s.size ≤ 9223372036854775806) (w : World) : Calls Tryd.prog 26 #[.string s, .string ⟨#[58]⟩] w fun e w' => e = .returned (cutV s) ∧ Step (fun _ => False) w w' := by
  have HI := Lib.hid (fun w => index_calls s w)
  unfold cutV
  rw [colon_ix] at HI
  cases hc : colon s with
  | none =>
    rw [hc] at HI
    simp only at HI ⊢
    go_enter Tryd.func26, Tryd.ntmps26
    go_wp2_with (go_at_call 37; refine (HI.out _).mono ?_; rintro e w' ⟨rfl, rfl⟩)
    go_ret3
    exact ⟨rfl, Step.refl _ _⟩
  | some i =>
    rw [hc] at HI
    simp only at HI ⊢
    have hi := colon_lt hc
    have c1 : (0 : Int) ≤ (i : Int) := by omega
    have c2 : (i : Int) ≤ (s.size : Int) := by omega
    have c3 : (0 : Int) ≤ (i : Int) + 1 := by omega
    have c4 : (i : Int) + 1 ≤ (s.size : Int) := by omega
    have hw : IntKind.i64.wrap ((i : Int) + 1) = (i : Int) + 1 := by rw [IntKind.wrap_i64]; omega
    have hn : ((i : Int) + 1).toNat = i + 1 := by omega
    clear hc
    go_enter Tryd.func26, Tryd.ntmps26
    go_wp2_with (go_at_call 37; refine (HI.out _).mono ?_; rintro e w' ⟨rfl, rfl⟩)
    go_region
    all_goals
      go_wp2
      go_ret3
      exact ⟨rfl, by first | exact Step.refl _ _ | exact (Step.refl _ _).drew⟩
set_option maxRecDepth 100000 in
theorem cut58_calls (s : ByteArray) (hs : s.size ≤ 9223372036854775806) (w : World) : Calls Tryd.prog 13 #[.string s, .string ⟨#[58]⟩] w fun e w' => e = .returned (cutV s) ∧ Step (fun _ => False) w w' := by
  have HI := Lib.hid (fun w => slcut_calls s hs w)
  have hv : ∃ a b c, cutV s = .tuple #[.string a, .string b, .bool c] := by
    unfold cutV
    cases colon s <;> exact ⟨_, _, _, rfl⟩
  obtain ⟨a, b, c, hv⟩ := hv
  rw [hv] at HI ⊢
  clear hv
  go_enter Tryd.func13, Tryd.ntmps13
  go_wp2_with (go_at_call 26; refine (HI.out _).mono ?_; rintro e w1 ⟨rfl, hs1⟩)
  go_ret3
  exact ⟨rfl, hs1⟩
theorem post_cell_tmp {P : Program} {fn : Func} {R : Ending → World → Prop} {p u : Tmp} {ty : TypeId} (h : fn.results = #[.cell p ty, .tmp u]) {a : Act} {w : World} {g : Nat} {T : TypeId} {cs : List Value} {d : TypeDesc} {v : Value} (hp : a.tmps.getD p undef = .pointer (some ⟨g, 0, none⟩)) (hE : Blk w g T cs)
    (hu : P.underlying ty = some d) (hd : (match d with | .struct _ | .array _ _ => true | _ => false) = true) (hi : (P.info? ty).map (·.size) = some cs.length) (hv : a.tmps.getD u undef = v) (hdef : a.defers = []) (hR : R (.returned (.tuple #[.agg cs.toArray, v])) w) : bodyPost P fn R .ret a w := by
  refine bodyPost_ret ?_ hdef hR
  rw [results_cell_tmp h, hp, hv]
  have hr := run_loadVar_row (P := P) w g T ty cs.toArray (0, 0) d hE hu hd (by simpa using hi)
  simp [asAddr, hr]
/-- A line's field. -/
def parseF (s : ByteArray) : Option (ByteArray × ByteArray) := match colon s with
  | none => none
  | some i => if token (s.extract 0 i) = true ∧ value (trim (s.extract (i + 1) s.size)) = true then some (s.extract 0 i, trim (s.extract (i + 1) s.size)) else none
def pfN (r : Option (ByteArray × ByteArray)) : ByteArray := match r with | none => ⟨#[]⟩ | some x => x.1
def pfV (r : Option (ByteArray × ByteArray)) : ByteArray := match r with | none => ⟨#[]⟩ | some x => x.2
def pfE (r : Option (ByteArray × ByteArray)) : Int := match r with | none => 2 | some x => 0
theorem ext_size (s : ByteArray) (a b : Nat) (hb : b ≤ s.size) : (s.extract a b).size ≤ s.size := by rw [ByteArray.size_extract]; omega
theorem cell2 (a b : ByteArray) : ∀ v ∈ [Value.string a, .string b], v.oneCell' = true := by
  intro v hv
  simp only [List.mem_cons, List.not_mem_nil, or_false] at hv
  rcases hv with rfl | rfl <;> rfl
theorem nil_trim : trim ⟨#[]⟩ = ⟨#[]⟩ := rfl
set_option maxRecDepth 100000 in
set_option maxHeartbeats 2000000 in
theorem parse_calls (s : ByteArray) (hs : s.size ≤ 9223372036854775806) (w : World) : Calls Tryd.prog 7 #[.string s] w fun e w' => e = .returned (.tuple #[.agg #[.string (pfN (parseF s)), .string (pfV (parseF s))], .int .i64 (pfE (parseF s))]) ∧ Step (fun _ => False) w w' := by
  have HC := Lib.hid (fun w => cut58_calls s hs w)
  unfold parseF
  unfold cutV at HC
  cases hc : colon s with
  | none =>
    rw [hc] at HC
    simp only [pfN, pfV, pfE] at HC ⊢
    have HT := Lib.hid (fun w => trim_calls ⟨#[]⟩ (by decide) w)
    rw [nil_trim] at HT
    go_enter Tryd.func7, Tryd.ntmps7
    go_upto_region 1 with (fail)
    refine alloc_next (cs := [.string ⟨#[]⟩, .string ⟨#[]⟩]) ?_
    intro w1 hX hs1
    obtain ⟨xb, hxb⟩ : ∃ xb, w.heap.size = xb := ⟨_, rfl⟩
    rw [hxb] at hX ⊢
    go_upto_region 3 with (first | (go_at_call 13; refine (HC.out _).mono ?_; rintro e w2 ⟨rfl, hs2⟩) | (go_at_call 14; refine (HT.out _).mono ?_; rintro e w3 ⟨rfl, hs3⟩))
    refine alloc_next (cs := [.string s, .string ⟨#[]⟩]) ?_
    intro w4 hY hs4
    have hst := ((hs1.same hs2).same hs3).same hs4
    have hX4 := ((hX.keep hs2 (fun h => h)).keep hs3 (fun h => h)).keep hs4 (fun h => h)
    go_wp2_with (refine wpList_store_blk rfl 27 (.tmp 2) (.tmp 31) rfl hX4 rfl (vs := [.string ⟨#[]⟩, .string ⟨#[]⟩]) rfl (by kernel_rfl) rfl (cell2 _ _) ?_; intro w9 hX9 hs9)
    try simp only [Exit.inBlock, Exit.then]
    exact post_cell_tmp (cs := [.string ⟨#[]⟩, .string ⟨#[]⟩]) rfl rfl hX9 Tryd.underlying27 rfl (by kernel_rfl) rfl rfl ⟨rfl, hst.trans hs9 (fun j hj e => by have : j = xb := e; omega)⟩
  | some i =>
    rw [hc] at HC
    simp only at HC ⊢
    have hi := colon_lt hc
    obtain ⟨n, hn⟩ : ∃ n, s.extract 0 i = n := ⟨_, rfl⟩
    obtain ⟨v, hv⟩ : ∃ v, s.extract (i + 1) s.size = v := ⟨_, rfl⟩
    have hns : n.size ≤ 9223372036854775806 := by rw [← hn]; exact Nat.le_trans (ext_size s _ _ (by omega)) hs
    have hvs : v.size ≤ 9223372036854775806 := by rw [← hv]; exact Nat.le_trans (ext_size s _ _ (by omega)) hs
    rw [hn, hv] at HC ⊢
    clear hc hn hv hi
    have HT := Lib.hid (fun w => trim_calls v hvs w)
    have htv := trim_size v
    obtain ⟨u, hu⟩ : ∃ u, trim v = u := ⟨_, rfl⟩
    rw [hu] at HT htv ⊢
    clear hu
    have HK := Lib.hid (fun w => token_calls n hns w)
    have HV := Lib.hid (fun w => value_calls u (by omega) w)
    generalize token n = tk at *
    generalize value u = vl at *
    cases tk with
    | false =>
      rw [if_neg (by simp)]
      simp only [pfN, pfV, pfE]
      go_enter Tryd.func7, Tryd.ntmps7
      go_upto_region 1 with (fail)
      refine alloc_next (cs := [.string ⟨#[]⟩, .string ⟨#[]⟩]) ?_
      intro w1 hX hs1
      obtain ⟨xb, hxb⟩ : ∃ xb, w.heap.size = xb := ⟨_, rfl⟩
      rw [hxb] at hX ⊢
      go_upto_region 3 with (first | (go_at_call 13; refine (HC.out _).mono ?_; rintro e w2 ⟨rfl, hs2⟩) | (go_at_call 14; refine (HT.out _).mono ?_; rintro e w3 ⟨rfl, hs3⟩))
      refine alloc_next (cs := [.string n, .string u]) ?_
      intro w4 hY hs4
      have hst := ((hs1.same hs2).same hs3).same hs4
      have hX4 := ((hX.keep hs2 (fun h => h)).keep hs3 (fun h => h)).keep hs4 (fun h => h)
      have y0 := hY.cell (i := 0) rfl
      have y1 := hY.cell (i := 1) rfl
      go_wp2_with (first | (go_at_call 15; refine (HK.out _).mono ?_; rintro e w5 ⟨rfl, rfl⟩) | (refine wpList_store_blk rfl 27 (.tmp 2) (.tmp 31) rfl hX4 rfl (vs := [.string ⟨#[]⟩, .string ⟨#[]⟩]) rfl (by kernel_rfl) rfl (cell2 _ _) ?_; intro w9 hX9 hs9))
      try simp only [Exit.inBlock, Exit.then]
      exact post_cell_tmp (cs := [.string ⟨#[]⟩, .string ⟨#[]⟩]) rfl rfl hX9 Tryd.underlying27 rfl (by kernel_rfl) rfl rfl ⟨rfl, hst.trans hs9 (fun j hj e => by have : j = xb := e; omega)⟩
    | true =>
      cases vl with
      | false =>
        rw [if_neg (by simp)]
        simp only [pfN, pfV, pfE]
        go_enter Tryd.func7, Tryd.ntmps7
        go_upto_region 1 with (fail)
        refine alloc_next (cs := [.string ⟨#[]⟩, .string ⟨#[]⟩]) ?_
        intro w1 hX hs1
        obtain ⟨xb, hxb⟩ : ∃ xb, w.heap.size = xb := ⟨_, rfl⟩
        rw [hxb] at hX ⊢
        go_upto_region 3 with (first | (go_at_call 13; refine (HC.out _).mono ?_; rintro e w2 ⟨rfl, hs2⟩) | (go_at_call 14; refine (HT.out _).mono ?_; rintro e w3 ⟨rfl, hs3⟩))
        refine alloc_next (cs := [.string n, .string u]) ?_
        intro w4 hY hs4
        have hst := ((hs1.same hs2).same hs3).same hs4
        have hX4 := ((hX.keep hs2 (fun h => h)).keep hs3 (fun h => h)).keep hs4 (fun h => h)
        have y0 := hY.cell (i := 0) rfl
        have y1 := hY.cell (i := 1) rfl
        go_wp2_with (first | (go_at_call 15; refine (HK.out _).mono ?_; rintro e w5 ⟨rfl, rfl⟩) | (go_at_call 16; refine (HV.out _).mono ?_; rintro e w6 ⟨rfl, hs6⟩) | (refine wpList_store_blk rfl 27 (.tmp 2) (.tmp 31) rfl (hX4.keep hs6 (fun h => h)) rfl (vs := [.string ⟨#[]⟩, .string ⟨#[]⟩]) rfl (by kernel_rfl) rfl (cell2 _ _) ?_; intro w9 hX9 hs9))
        try simp only [Exit.inBlock, Exit.then]
        exact post_cell_tmp (cs := [.string ⟨#[]⟩, .string ⟨#[]⟩]) rfl rfl hX9 Tryd.underlying27 rfl (by kernel_rfl) rfl rfl ⟨rfl, (hst.same hs6).trans hs9 (fun j hj e => by have : j = xb := e; omega)⟩
      | true =>
        rw [if_pos (by simp)]
        simp only [pfN, pfV, pfE]
        go_enter Tryd.func7, Tryd.ntmps7
        go_upto_region 1 with (fail)
        refine alloc_next (cs := [.string ⟨#[]⟩, .string ⟨#[]⟩]) ?_
        intro w1 hX hs1
        obtain ⟨xb, hxb⟩ : ∃ xb, w.heap.size = xb := ⟨_, rfl⟩
        rw [hxb] at hX ⊢
        go_upto_region 3 with (first | (go_at_call 13; refine (HC.out _).mono ?_; rintro e w2 ⟨rfl, hs2⟩) | (go_at_call 14; refine (HT.out _).mono ?_; rintro e w3 ⟨rfl, hs3⟩))
        refine alloc_next (cs := [.string n, .string u]) ?_
        intro w4 hY hs4
        have hst := ((hs1.same hs2).same hs3).same hs4
        have hX4 := ((hX.keep hs2 (fun h => h)).keep hs3 (fun h => h)).keep hs4 (fun h => h)
        have y0 := hY.cell (i := 0) rfl
        have y1 := hY.cell (i := 1) rfl
        go_upto_region 5 with (first | (go_at_call 15; refine (HK.out _).mono ?_; rintro e w5 ⟨rfl, rfl⟩) | (go_at_call 16; refine (HV.out _).mono ?_; rintro e w6 ⟨rfl, hs6⟩))
        have hY6 := hY.keep hs6 (fun h => h)
        clear y0 y1
        have y0 := hY6.cell (i := 0) rfl
        have y1 := hY6.cell (i := 1) rfl
        go_wp2_with (refine wpList_store_blk rfl 27 (.tmp 2) (.tmp 32) rfl (hX4.keep hs6 (fun h => h)) rfl (vs := [.string n, .string u]) rfl (by kernel_rfl) rfl (cell2 _ _) ?_; intro w9 hX9 hs9)
        try simp only [Exit.inBlock, Exit.then]
        exact post_cell_tmp (cs := [.string n, .string u]) rfl rfl hX9 Tryd.underlying27 rfl (by kernel_rfl) rfl rfl ⟨rfl, (hst.same hs6).trans hs9 (fun j hj e => by have : j = xb := e; omega)⟩
theorem cat_size (a b : ByteArray) : (a ++ b).size = a.size + b.size := ByteArray.size_append
def lineB (n v : ByteArray) : ByteArray := n ++ ⟨#[58, 32]⟩ ++ v ++ ⟨#[13, 10]⟩
set_option maxRecDepth 100000 in
theorem is_calls (n v s : ByteArray) (hn : n.size ≤ 1000000) (hs : s.size ≤ 1000000) (w : World) : Calls Tryd.prog 34 #[.agg #[.string n, .string v], .string s] w fun e w' => e = .returned (.bool ((lower n).toList == (lower s).toList)) ∧ Step (fun _ => False) w w' := by
  have HF := Lib.hid (fun w => fold_calls n s (by omega) (by omega) w)
  generalize ((lower n).toList == (lower s).toList) = r at *
  go_enter Tryd.func34, Tryd.ntmps34
  go_upto_region 1 with (fail)
  refine alloc_next (cs := [.string n, .string v]) ?_
  intro w1 hX hs1
  have y0 := hX.cell (i := 0) rfl
  have y1 := hX.cell (i := 1) rfl
  go_wp2_with (go_at_call 25; refine (HF.out _).mono ?_; rintro e w2 ⟨rfl, hs2⟩)
  go_ret
  exact ⟨rfl, hs1.same hs2⟩
end Go.Proofs.YtdglbpjgadjnjaaDoor.Fie
