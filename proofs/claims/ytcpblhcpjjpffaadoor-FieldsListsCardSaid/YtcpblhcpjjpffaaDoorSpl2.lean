/- strings.SplitSeq: what it hands back, and its iterator. Own work of this seat; no condition but on lengths. -/
import Derived.Test.YtcpblhcpjjpffaaDoorSpl1
namespace Go.Proofs.YtcpblhcpjjpffaaDoor.Fie
open Go.RowKit Go.Proofs.YtcpblhcpjjpffaaDoor.Kit Go.Proofs.YtcpblhcpjjpffaaDoor.Oct Go.Proofs.YtcpblhcpjjpffaaDoor.Cut
set_option linter.unusedVariables false
set_option linter.unusedSimpArgs false

attribute [local go_sem] Oper.semAt_some
def partsB (s : ByteArray) : List ByteArray := (splitC (bts s)).map ofL
theorem partsB_some {t : ByteArray} {i : Nat} (h : comma t = some i) : partsB t = t.extract 0 i :: partsB (t.extract (i + 1) t.size) := by
  have hi := (List.findIdx?_eq_some_iff_getElem.1 h).1
  have e1 : ofL ((bts t).take i) = t.extract 0 i := bts_inj (by rw [bts_ofL, bts_ext, List.drop_zero]; rfl)
  have e2 : (bts t).drop (i + 1) = bts (t.extract (i + 1) t.size) := by
    rw [bts_ext]
    refine (List.take_of_length_le ?_).symm
    rw [List.length_drop, bts_len]
    omega
  unfold partsB
  rw [splitC_first h, List.map_cons, e1, e2]
theorem partsB_none {t : ByteArray} (h : comma t = none) : partsB t = [t] := by
  unfold partsB
  rw [splitC_last h, List.map_cons, ofL_bts]
  rfl
theorem comma_lt {s : ByteArray} {i : Nat} (h : comma s = some i) : i < s.size := by
  have hi := (List.findIdx?_eq_some_iff_getElem.1 h).1
  rw [bts_len] at hi
  exact hi
theorem splitseq_calls (s : ByteArray) (w : World) : Calls Tryd.prog 88 #[.string s, .string ⟨#[44]⟩] w fun e w' => e = .returned (.func (.func 119) #[] #[.pointer (some ⟨w.heap.size + 1, 0, none⟩), .pointer (some ⟨w.heap.size, 0, none⟩), .pointer (some ⟨w.heap.size + 2, 0, none⟩)]) ∧
    Blk w' w.heap.size 9 [.string s] ∧ Blk w' (w.heap.size + 1) 9 [.string ⟨#[44]⟩] ∧ Blk w' (w.heap.size + 2) 3 [.int .i64 0] ∧ Step (fun _ => False) w w' ∧ w.heap.size + 2 < w'.heap.size := by
  have hin : Calls Tryd.prog 103 #[.string s, .string ⟨#[44]⟩, .int .i64 0] w fun e w' => e = .returned (.func (.func 119) #[] #[.pointer (some ⟨w.heap.size + 1, 0, none⟩), .pointer (some ⟨w.heap.size, 0, none⟩), .pointer (some ⟨w.heap.size + 2, 0, none⟩)]) ∧ w' = ((w.alloc (.cells #[.string s] 9)).alloc (.cells #[.string ⟨#[44]⟩] 9)).alloc (.cells #[.int .i64 0] 3) := by
    go_enter Tryd.func103, Tryd.ntmps103
    go_wp2
    go_ret
    exact ⟨rfl, rfl⟩
  have HIN := Lib.hid hin
  clear hin
  go_enter Tryd.func88, Tryd.ntmps88
  go_wp2_with (go_at_call 103; refine HIN.out.mono ?_; rintro e w1 ⟨rfl, hw1⟩)
  go_ret
  have z1 : (w.alloc (.cells #[.string s] 9)).heap.size = w.heap.size + 1 := World.size_alloc _ _
  have z2 : ((w.alloc (.cells #[.string s] 9)).alloc (.cells #[.string ⟨#[44]⟩] 9)).heap.size = w.heap.size + 2 := by rw [World.size_alloc, z1]
  have b1 := blk_new w [.string s] 9
  have b2 := blk_new (w.alloc (.cells #[.string s] 9)) [.string ⟨#[44]⟩] 9
  rw [z1] at b2
  have b3 := blk_new ((w.alloc (.cells #[.string s] 9)).alloc (.cells #[.string ⟨#[44]⟩] 9)) [.int .i64 0] 3
  rw [z2] at b3
  refine ⟨rfl, ?_⟩
  subst hw1
  exact ⟨(b1.alloc _).alloc _, b2.alloc _, b3, (((Step.refl _ _).alloc _).alloc _).alloc _, by rw [World.size_alloc, z2]; omega⟩
/-- how much is left in the iterator's box. -/
def leftS (sb : Nat) (w : World) : Nat := match w.cell? ⟨sb, 0, none⟩ with
  | some (.string t) => t.size
  | _ => 0
theorem leftS_eq {w : World} {sb : Nat} {t : ByteArray} (h : Blk w sb 9 [.string t]) : leftS sb w = t.size := by
  unfold leftS
  rw [h.cell (i := 0) rfl]
set_option maxRecDepth 100000 in
set_option maxHeartbeats 4000000 in
theorem split_iter {sb pb zb : Nat} (s : ByteArray) (hs : s.size ≤ 1000000000) (hps : pb ≠ sb) (hzs : zb ≠ sb) (l n : Nat) (J : List ByteArray → World → Prop) (W : World) (h0 : J [] W)
    (hS : Blk W sb 9 [.string s]) (hP : Blk W pb 9 [.string ⟨#[44]⟩]) (hZ : Blk W zb 3 [.int .i64 0])
    (hset : ∀ pre W1 v, J pre W1 → J pre (W1.setCell ⟨sb, 0, none⟩ v))
    (hY : ∀ pre x W1, J pre W1 → pre ++ [x] <+: partsB s → YieldAt Fence.wide (n - 1) Tryd.prog l #[.string x] W1 fun e W' => e = .returned (.bool true) ∧ J (pre ++ [x]) W' ∧ ∀ j ∈ [sb, pb, zb], W'.heap[j]? = W1.heap[j]?) :
    CallsIn Fence.wide n Tryd.prog 119 #[.func (.yield l) #[] #[], .pointer (some ⟨pb, 0, none⟩), .pointer (some ⟨sb, 0, none⟩), .pointer (some ⟨zb, 0, none⟩)] W fun e W' => (∃ v, e = .returned v) ∧ J (partsB s) W' := by
  have HY := Lib.hid hY
  have HIX := Lib.hid (fun (t : ByteArray) (w : World) => ixc_calls t w)
  have HSET := Lib.hid hset
  have p0 := hP.cell (i := 0) rfl
  clear hY hset
  refine callsIn_of_wp Tryd.func119 rfl trivial ?_ rfl
  simp only [Tryd.ntmps119, List.size_toArray, List.length_cons, List.length_nil, Nat.reduceAdd, Nat.reduceSub, Array.replicate_succ, Array.replicate_zero, List.push_toArray, List.append_toArray, List.nil_append, List.cons_append]
  gi_wp2
  gi_loopw [7] (fun v wr => ∃ (pre : List ByteArray) (t : ByteArray), partsB s = pre ++ partsB t ∧ t.size ≤ 1000000000 ∧ J pre wr ∧ Blk wr sb 9 [.string t] ∧ Blk wr pb 9 [.string ⟨#[44]⟩] ∧ Blk wr zb 3 [.int .i64 0]) (fun v wr => leftS sb wr)
  case atStart => exact ⟨[], s, rfl, hs, h0, hS, hP, hZ⟩
  case round =>
    clear p0 hS hP hZ h0
    obtain ⟨pre, t, hpt, hts, hJ, hS, hP, hZ⟩ := hrel
    have s0 := hS.cell (i := 0) rfl
    have p0 := hP.cell (i := 0) rfl
    have z0 := hZ.cell (i := 0) rfl
    have HPT := Lib.hid hpt
    have HIX1 := Lib.hid (HIX.out t)
    rw [comma_ix] at HIX1
    clear hpt
    cases hc : comma t with
    | none =>
      rw [hc] at HIX1
      simp only at HIX1
      have hpn := partsB_none hc
      have hmem : pre ++ [t] <+: partsB s := by rw [HPT.out, hpn]; exact List.prefix_refl _
      obtain ⟨fn, tm, asg, bod, hy, hR⟩ := HY.out pre t wr hJ hmem
      have HPN := Lib.hid hpn
      clear hc hpn hmem HIX
      gi_wp2
      refine ⟨trivial, (fun h => by cases h), (callsIn_wide.2 (HIX1.out _)).mono ?_⟩
      rintro e w' ⟨rfl, rfl⟩
      dsimp only
      gi_wp2
      refine ⟨(fun h => by cases h), hR.mono ?_⟩
      rintro e W3 ⟨rfl, hJ3, hk3⟩
      dsimp only
      gi_wp2
      go_end0
      exact ⟨⟨_, rfl⟩, by rw [HPT.out, HPN.out]; exact hJ3⟩
    | some i =>
      rw [hc] at HIX1
      simp only at HIX1
      have hi := comma_lt hc
      have hps := partsB_some hc
      have hmem : pre ++ [t.extract 0 i] <+: partsB s := by rw [HPT.out, hps]; exact ⟨_, by rw [List.append_assoc]; rfl⟩
      obtain ⟨fn, tm, asg, bod, hy, hR⟩ := HY.out pre (t.extract 0 i) wr hJ hmem
      obtain ⟨f, hf⟩ : ∃ f, t.extract 0 i = f := ⟨_, rfl⟩
      obtain ⟨u, hu⟩ : ∃ u, t.extract (i + 1) t.size = u := ⟨_, rfl⟩
      have hus : u.size = t.size - (i + 1) := by rw [← hu, ByteArray.size_extract]; omega
      rw [hf, hu] at hps
      rw [hf] at hy hR
      have HPS := Lib.hid hps
      have hb2 : (0 : Int) ≤ (i : Int) + 1 := by omega
      have hb3 : (i : Int) + 1 ≤ (t.size : Int) := by omega
      have hb4 : (0 : Int) ≤ (i : Int) := by omega
      have hb5 : (i : Int) ≤ (t.size : Int) := by omega
      have hb6 : ¬ (i : Int) < 0 := by omega
      clear hc hps hmem HIX
      gi_wp2
      refine ⟨trivial, (fun h => by cases h), (callsIn_wide.2 (HIX1.out _)).mono ?_⟩
      rintro e w' ⟨rfl, rfl⟩
      dsimp only
      gi_wp2
      refine ⟨(fun h => by cases h), hR.mono ?_⟩
      rintro e W3 ⟨rfl, hJ3, hk3⟩
      dsimp only
      have hS3 : Blk W3 sb 9 [.string t] := (hk3 sb (by simp)).trans hS
      have hP3 : Blk W3 pb 9 [.string ⟨#[44]⟩] := (hk3 pb (by simp)).trans hP
      have hZ3 : Blk W3 zb 3 [.int .i64 0] := (hk3 zb (by simp)).trans hZ
      have s3 := hS3.cell (i := 0) rfl
      have f3 := hS3.free 0
      have p3 := hP3.cell (i := 0) rfl
      clear s0 p0 z0 hy hR
      gi_wp2
      go_roundw
      case rel => exact ⟨pre ++ [f], u, by rw [HPT.out, HPS.out]; simp, by omega, HSET.out _ _ _ hJ3, hS3.set 0 _, hP3.other hps _, hZ3.other hzs _⟩
      case measure =>
        rw [leftS_eq (hS3.set 0 (.string u)), leftS_eq hS]
        omega
end Go.Proofs.YtcpblhcpjjpffaaDoor.Fie
