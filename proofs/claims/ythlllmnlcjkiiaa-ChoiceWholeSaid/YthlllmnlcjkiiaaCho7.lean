/- law 16: Own; how a row of candidates is read. Own work of this seat; no condition. -/
import Derived.Test.YthlllmnlcjkiiaaCho6
import Derived.Test.YthlllmnlcjkiiaaFBase
namespace Go.Proofs.Ythlllmnlcjkiiaa.Cho
open Go.RowKit Go.Proofs.Ythlllmnlcjkiiaa.Kit Go.Proofs.Ythlllmnlcjkiiaa.Flo Go.Proofs.Ythlllmnlcjkiiaa.Base Go.Proofs.YthlllmnlcjkiiaaW.PrintWords
set_option linter.unusedVariables false
set_option linter.unusedSimpArgs false
attribute [local go_sem] store_flt

def kCand : Kd Cand := Kd.iso (Kd.pair Kd.string (Kd.pair (Kd.int .i64) (Kd.pair (Kd.int .i64) kFlt))) (fun x : Cand => (x.nm, x.wt, x.bz, x.tm))
theorem kCand_open {w : World} {x : Cand} {cs : List Value} (h : kCand.K w x cs) : cs = [.string x.nm, .int .i64 x.wt, .int .i64 x.bz, .float .f64 x.tm] := by
  obtain ⟨_, _, rfl, rfl, ⟨_, _, rfl, rfl, ⟨_, _, rfl, rfl, rfl⟩⟩⟩ := h
  exact rfl
def zCand : Cand := ⟨⟨#[]⟩, 0, 0, 0⟩
theorem cell_lt {w : World} {p : Addr} {v : Value} (h : w.cell? p = some v) : p.block < w.heap.size := by
  rcases Nat.lt_or_ge p.block w.heap.size with hl | hl
  · exact hl
  · unfold World.cell? at h
    rw [Array.getElem?_eq_none hl] at h
    simp at h
theorem cell_bel {w w' : World} {p : Addr} {v : Value} (h : w.cell? p = some v) (hb : Below w.heap.size w w') : w'.cell? p = some v := by
  rw [hb.cell (cell_lt h)]; exact h
theorem cand_at {w : World} {A : Option Addr} {n : Nat} {xs : List Cand} (h : Kd.C kCand w A n xs) (i : Nat) (h1 : i < n) : ∃ (ad : Addr), A = some ad ∧ ∀ w', Below w.heap.size w w' → w'.cell? (ad.add (i * 4)) = some (.string (xs.getD i zCand).nm) ∧ w'.cell? ⟨(ad.add (i * 4)).block, (ad.add (i * 4)).off + 1, none⟩ = some (.int .i64 (xs.getD i zCand).wt) ∧ w'.cell? ⟨(ad.add (i * 4)).block, (ad.add (i * 4)).off + 2, none⟩ = some (.int .i64 (xs.getD i zCand).bz) ∧ w'.cell? ⟨(ad.add (i * 4)).block, (ad.add (i * 4)).off + 3, none⟩ = some (.float .f64 (xs.getD i zCand).tm) := by
  obtain ⟨ad, c, e, _, hK, hc0⟩ := Kd.C_get h zCand (i : Int) (by omega) (by omega)
  have hc : ∀ j u, c[j]? = some u → w.cell? (ad.add (i * 4 + j)) = some u := hc0
  obtain rfl := kCand_open hK
  exact ⟨ad, e, fun w' hb => ⟨cell_bel (hc 0 _ rfl) hb, cell_bel (by rw [← add_field _ _ 1 (by omega)]; exact hc 1 _ rfl) hb, cell_bel (by rw [← add_field _ _ 2 (by omega)]; exact hc 2 _ rfl) hb, cell_bel (by rw [← add_field _ _ 3 (by omega)]; exact hc 3 _ rfl) hb⟩⟩

theorem i0cand : ∃ i, Try.prog.info? 29 = some i ∧ i.zero = some (.agg #[.string ⟨#[]⟩, .int .i64 0, .int .i64 0, .float .f64 0]) ∧ i.size = 4 ∧ i.bytes = 40 := by
  obtain ⟨i, hi, hp⟩ := Option.map_eq_some_iff.1 (by kernel_rfl : (Try.prog.info? 29).map (fun i => (i.zero, i.size, i.bytes)) = some (some (.agg #[.string ⟨#[]⟩, .int .i64 0, .int .i64 0, .float .f64 0]), 4, 40))
  simp only [Prod.mk.injEq] at hp
  exact ⟨i, hi, hp⟩
theorem run_app_cand {w : World} {A : Option Addr} {n c b : Nat} {l : List Cand} {x : Cand} (h : CSeg w A n c l) (k : Blk w b 29 (cnc x)) (hb : n + 1 ≤ 1000000) :
    ∃ A' c' w', (Builtin.append_ #[24, 24] 24 #[.slice A n c, .slice (some ⟨b, 0, none⟩) 1 1]).run Try.prog w = .ok (.slice A' (n + 1) c') w' ∧ CSeg w' A' (n + 1) c' (l ++ [x]) ∧ Step (fun k => blockOf A = some k) w w' ∧ (blockOf A' = blockOf A ∨ ∃ k, blockOf A' = some k ∧ w.heap.size ≤ k) := by
  obtain ⟨i0, hi0, hz0, hs0, hy0⟩ := i0cand
  have := run_append_flat (P := Try.prog) (cB := 1) w 24 24 29 i0 _ 4 40 Try.underlying24 hi0 hz0 rfl hs0 hy0 (by omega) h (m := 1) (r := cnc x) (aB := ⟨b, 0, none⟩) rfl (fun _ => Nat.one_pos) (fun v hv => by
    simp only [cnc, List.mem_cons, List.not_mem_nil, or_false] at hv
    rcases hv with rfl | rfl | rfl | rfl <;> rfl) (fun j v hj => by rw [addr_add', Nat.zero_add]; exact k.cell hj) hb
  unfold CSeg
  rw [cncs_append]
  simpa [cncs] using this
set_option maxRecDepth 100000 in
set_option maxHeartbeats 2000000 in
theorem own_calls {w0 w : World} {A : Option Addr} {L c m : Nat} {l : List Cand} (hr : Kd.C kCand w0 A L l) (hL : l.length = L) (hc : L ≤ c) (hb : Below w0.heap.size w0 w) (hm : (if (20 : Int) < (L : Int) then (20 : Int) else (L : Int)) = (m : Int)) (hmL : m ≤ L ∧ m ≤ 20) :
    Calls Try.prog 5 #[.slice A L c, .int .i64 20] w fun e w' => ∃ B cB v2, e = .returned (.tuple #[.slice B m cB, v2]) ∧ CSeg w' B m cB (l.take m) ∧ (∀ k, blockOf B = some k → w.heap.size ≤ k) ∧ Step (fun _ => False) w w' := by
  have HR := Lib.hid (fun i (hi : i < L) => cand_at hr i hi)
  have HB := Lib.hid hb
  have HLL := Lib.hid hL
  have hmc : ((m : Int) ≤ (c : Int)) := by omega
  have m0 : (0 : Int) ≤ (m : Int) := by omega
  clear hr hb hL
  go_enter Try.func5, Try.ntmps5
  go_wp2
  go_loopw [6, 17] (fun v6 v17 wr => ∃ (i : Nat) (B : Option Addr) (cB : Nat), v17 = .int .i64 (i : Int) ∧ v6 = .slice B i cB ∧ i ≤ m ∧ CSeg wr B i cB (l.take i) ∧ (∀ k, blockOf B = some k → w.heap.size ≤ k) ∧ Step (fun _ => False) w wr) (fun _ v _ => m - (intOf v).toNat)
  case atStart => exact ⟨0, none, 0, rfl, rfl, Nat.zero_le _, fseg_nil _ _ _, fun k hk => (by cases hk), Step.refl _ _⟩
  case round =>
    obtain ⟨i, B, cB, rfl, rfl, hi, hB, hBf, hst⟩ := hrel
    by_cases hin : i < m
    · have hin' : ((i : Int) < (m : Int)) := by omega
      obtain ⟨ad, rfl, hcell⟩ := HR.out i (by omega)
      have hw := hst.below (F := fun _ => False) HB.out.size (fun _ h => h.elim)
      obtain ⟨c0, c1, c2, c3⟩ := hcell wr (HB.out.trans hw)
      have hx : l[i]? = some (l.getD i zCand) := by rw [List.getD_eq_getElem?_getD, List.getElem?_eq_getElem (by have := HLL.out; omega)]; rfl
      generalize l.getD i zCand = x at *
      have hT : l.take (i + 1) = l.take i ++ [x] := by rw [List.take_add_one, hx]; rfl
      have HTK := Lib.hid hT
      clear hT hx hcell hw
      obtain ⟨xn, xw, xb, xt⟩ := x
      simp only at c0 c1 c2 c3
      have HBB := Lib.hid hB
      have HST := Lib.hid hst
      have HBF := Lib.hid hBf
      clear hB hst hBf
      go_upto_region 6 with (fail)
      refine alloc_next (cs := [.string xn, .int .i64 xw, .int .i64 xb, .float .f64 xt]) ?_
      intro w2 hV hs2
      have v0 := hV.cell (i := 0) rfl
      have v1 := hV.cell (i := 1) rfl
      have v2 := hV.cell (i := 2) rfl
      have v3 := hV.cell (i := 3) rfl
      generalize wr.heap.size = vb at *
      have hal : Step (fun _ => False) w2 (w2.alloc (.cells #[.string xn, .int .i64 xw, .int .i64 xb, .float .f64 xt] 29)) := (Step.refl _ _).alloc _
      have hB2 : CSeg (w2.alloc (.cells #[.string xn, .int .i64 xw, .int .i64 xb, .float .f64 xt] 29)) B i cB (l.take i) := FSeg.keep (FSeg.keep HBB.out hs2 (fun _ _ h => h)) hal (fun _ _ h => h)
      obtain ⟨B5, c5, w5, hap, hB5, hs5, hn5⟩ := run_app_cand (x := ⟨xn, xw, xb, xt⟩) hB2 (blk_new w2 _ _) (by omega)
      have hst2 := HST.out.same hs2
      have hst5 : Step (fun _ => False) w w5 := (hst2.same hal).trans hs5 (fun j hj h => by have := HBF.out j h; omega)
      have hz := hst2.size
      have hz1 := hal.size
      rw [← HTK.out] at hB5
      have hB5f : ∀ k, blockOf B5 = some k → w.heap.size ≤ k := fun k hk => by
        rcases hn5 with e | ⟨j, e, hj⟩
        · exact HBF.out k (e ▸ hk)
        · rw [hk] at e
          obtain rfl := Option.some.inj e
          omega
      have HB5 := Lib.hid hB5
      have HST5 := Lib.hid hst5
      clear hB5 hst5 hs5 hn5 hal hst2 hs2 hB2 HBB HST HTK hV
      go_wp2_with (at_builtin; refine wpList_app (by rfl) (.tmp 21) (.tmp 23) 24 (by rfl) (by rfl) (by rfl) hap ?_)
      go_roundw
      case rel => exact ⟨i + 1, B5, c5, by go_num, rfl, by omega, HB5.out, hB5f, HST5.out⟩
      case measure =>
        simp only [intOf]
        omega
    · have hin' : ¬ ((i : Int) < (m : Int)) := by omega
      obtain rfl : i = m := by omega
      have HBB := Lib.hid hB
      have HBF := Lib.hid hBf
      have HST := Lib.hid hst
      clear hB hBf hst
      go_wp2
      go_ret2
      first | exact ⟨B, cB, rfl, HBB.out, HBF.out, HST.out⟩ | exact ⟨B, cB, ⟨_, rfl⟩, HBB.out, HBF.out, HST.out⟩
end Go.Proofs.Ythlllmnlcjkiiaa.Cho
