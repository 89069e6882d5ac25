/- health: a probe's result. Own work of this seat. -/
import Derived.Test.YtghiklaeenhljaaWk
import Derived.Test.YtghiklaeenhljaaFlat
import Derived.Test.YtghiklaeenhljaaMapG
import Derived.Test.YtghiklaeenhljaaPStewardRampsx1
import Derived.Laws.ResultCell
namespace Go.Proofs.Ytghiklaeenhljaa.Hea
open Go.RowKit Go.Proofs.Ytghiklaeenhljaa.Kit Go.Proofs.Ytghiklaeenhljaa.PStewardRamps Go.Proofs.YtghiklaeenhljaaW.PrintWords
set_option linter.unusedVariables false
set_option linter.unusedSimpArgs false

structure Pb where
  up : Bool
  good : Int
  bad : Int
  since : Int
structure Cf where
  every : Int
  wait : Int
  rise : Int
  fall : Int
def CfOk (c : Cf) : Prop := (1 ≤ c.every ∧ c.every ≤ 1048576) ∧ (1 ≤ c.wait ∧ c.wait ≤ 1048576) ∧ (1 ≤ c.rise ∧ c.rise ≤ 1000) ∧ (1 ≤ c.fall ∧ c.fall ≤ 1000)
def pbc (p : Pb) : List Value := [.bool p.up, .int .i64 p.good, .int .i64 p.bad, .int .i64 p.since]
def cfc (c : Cf) : List Value := [.int .i64 c.every, .int .i64 c.wait, .int .i64 c.rise, .int .i64 c.fall]
def rowP (n want : Int) : Int × Bool := if want ≤ n + 1 then (0, true) else (n + 1, false)
def resP (p : Pb) (c : Cf) (good : Bool) (now : Int) : Pb × Bool :=
  match good, p.up with
  | true, false => if c.rise ≤ p.good + 1 then (⟨true, 0, 0, now⟩, true) else (⟨false, p.good + 1, 0, p.since⟩, false)
  | true, true => (⟨true, p.good, 0, p.since⟩, false)
  | false, true => if c.fall ≤ p.bad + 1 then (⟨false, 0, 0, now⟩, true) else (⟨true, 0, p.bad + 1, p.since⟩, false)
  | false, false => (⟨false, 0, p.bad, p.since⟩, false)
theorem step_bel {w w' : World} (h : Below w.heap.size w w') : Step (fun _ => False) w w' := Step.of_below h

theorem row_calls (n want : Int) (hn : 0 ≤ n ∧ n ≤ 1000000) (w : World) : Calls Try.prog 68 #[.int .i64 n, .int .i64 want] w fun e w' => e = .returned (.tuple #[.int .i64 (rowP n want).1, .bool (rowP n want).2]) ∧ w = w' := by
  have hmax : (if (0 : Int) < n then n else 0) = n := by by_cases h : 0 < n <;> simp [h]; omega
  unfold rowP
  by_cases h : want ≤ n + 1
  · rw [if_pos h]
    go_enter Try.func68, Try.ntmps68
    go_wp2
    go_ret2
    exact ⟨rfl, rfl⟩
  · rw [if_neg h]
    have h2 : ¬ want ≤ n := by omega
    go_enter Try.func68, Try.ntmps68
    go_wp2
    go_ret2
    exact ⟨rfl, rfl⟩
theorem clip_ok {c : Cf} (h : CfOk c) (w : World) : Calls Try.prog 26 #[.agg #[.int .i64 c.every, .int .i64 c.wait, .int .i64 c.rise, .int .i64 c.fall]] w fun e w' => e = .returned (.agg #[.int .i64 c.every, .int .i64 c.wait, .int .i64 c.rise, .int .i64 c.fall]) ∧ Step (fun _ => False) w w' := by
  obtain ⟨h1, h2, h3, h4⟩ := h
  have hm : ∀ x m : Int, 1 ≤ x → x ≤ m → mx 1 (mn x m) = x := fun x m a b => by
    have e : mn x m = x := by unfold mn; rw [if_neg (by omega)]
    rw [e]
    unfold mx
    split <;> omega
  have hf : probe_Config_Clip.f c.every c.wait c.rise c.fall = some (c.every, c.wait, c.rise, c.fall) := by
    unfold probe_Config_Clip.f probe_clip.f
    simp only [Option.bind_some, hm _ _ h1.1 h1.2, hm _ _ h2.1 h2.2, hm _ _ h3.1 h3.2, hm _ _ h4.1 h4.2]
  exact (probe_Config_Clip.calls _ _ _ _ _ _ _ _ w hf).mono fun e w' h => ⟨h.1, step_bel h.2⟩

/-- Behind three new blocks. -/
theorem alloc_next3 {P : Program} {c : Code} {Q : Exit → Act → World → Prop} {a : Act} {w : World} {T T' T'' : TypeId} {cs ds es : List Value}
    (k : ∀ w1, Blk w1 w.heap.size T cs → Blk w1 (w.heap.size + 1) T' ds → Blk w1 (w.heap.size + 2) T'' es → Step (fun _ => False) w w1 → w.heap.size + 2 < w1.heap.size → Code.wp P c Q a w1) : Code.wp P c Q a (((w.alloc (.cells cs.toArray T)).alloc (.cells ds.toArray T')).alloc (.cells es.toArray T'')) := by
  have e : ∀ (u : World) (o : Obj), (u.alloc o).heap.size = u.heap.size + 1 := fun u o => by show (u.heap.push _).size = _; simp
  have h2 := blk_new (w.alloc (.cells cs.toArray T)) ds T'
  have h3 := blk_new ((w.alloc (.cells cs.toArray T)).alloc (.cells ds.toArray T')) es T''
  rw [e] at h2
  rw [e, e] at h3
  exact k _ (((blk_new w cs T).alloc _).alloc _) (h2.alloc _) h3 ((((Step.refl _ _).alloc _).alloc _).alloc _) h3.lt
theorem post_cell_tmp {P : Program} {fn : Func} {R : Ending → World → Prop} {p u : Tmp} {ty : TypeId} (h : fn.results = #[.cell p ty, .tmp u]) {a : Act} {w : World} {g : Nat} {T : TypeId} {cs : List Value} {d : TypeDesc} {v : Value} (hp : a.tmps.getD p undef = .pointer (some ⟨g, 0, none⟩)) (hE : Blk w g T cs)
    (hu : P.underlying ty = some d) (hd : (match d with | .struct _ | .array _ _ => true | _ => false) = true) (hi : (P.info? ty).map (·.size) = some cs.length) (hv : a.tmps.getD u undef = v) (hdef : a.defers = []) (hR : R (.returned (.tuple #[.agg cs.toArray, v])) w) : bodyPost P fn R .ret a w := by
  refine bodyPost_ret ?_ hdef hR
  rw [results_cell_tmp h, hp, hv]
  have hr := run_loadVar_row (P := P) w g T ty cs.toArray (0, 0) d hE hu hd (by simpa using hi)
  simp [asAddr, hr]
theorem step_fresh {w w' : World} (h : Step (fun k => w.heap.size ≤ k) w w') : Step (fun _ => False) w w' := ⟨h.os, h.tape, h.output, h.size, fun k hk _ => h.block k hk (by omega)⟩

set_option maxRecDepth 100000 in
set_option maxHeartbeats 4000000 in
theorem result_calls {c : Cf} (hc : CfOk c) {p : Pb} (hp : (0 ≤ p.good ∧ p.good ≤ 1000) ∧ (0 ≤ p.bad ∧ p.bad ≤ 1000)) (good : Bool) (now : Int) (w : World) :
    Calls Try.prog 52 #[.agg #[.bool p.up, .int .i64 p.good, .int .i64 p.bad, .int .i64 p.since], .agg #[.int .i64 c.every, .int .i64 c.wait, .int .i64 c.rise, .int .i64 c.fall], .bool good, .int .i64 now] w fun e w' =>
      e = .returned (.tuple #[.agg #[.bool (resP p c good now).1.up, .int .i64 (resP p c good now).1.good, .int .i64 (resP p c good now).1.bad, .int .i64 (resP p c good now).1.since], .bool (resP p c good now).2]) ∧ Step (fun _ => False) w w' := by
  have HC := Lib.hid (fun w1 => clip_ok hc w1)
  obtain ⟨up, pg, pb, ps⟩ := p
  obtain ⟨ce, cw, cr, cf⟩ := c
  obtain ⟨hpg, hpb⟩ := hp
  simp only at hpg hpb HC ⊢
  have HRG := Lib.hid (fun w1 => row_calls pg cr (by omega) w1)
  have HRB := Lib.hid (fun w1 => row_calls pb cf (by omega) w1)
  unfold rowP at HRG HRB
  clear hc
  cases good with
  | true =>
    cases up with
    | false =>
      by_cases hr : cr ≤ pg + 1
      · rw [if_pos hr] at HRG
        have e0 : resP ⟨false, pg, pb, ps⟩ ⟨ce, cw, cr, cf⟩ true now = (⟨true, 0, 0, now⟩, true) := by unfold resP; simp only; rw [if_pos hr]
        rw [e0]
        simp only
        clear e0
        go_enter Try.func52, Try.ntmps52
        go_upto_region 1 with (fail)
        refine alloc_next3 (cs := [.bool false, .int .i64 pg, .int .i64 pb, .int .i64 ps]) (ds := [.int .i64 ce, .int .i64 cw, .int .i64 cr, .int .i64 cf]) (es := [.bool false, .int .i64 0, .int .i64 0, .int .i64 0]) ?_
        intro w1 hP hC hZ hs1 hz1
        generalize hwb : w.heap.size = wb at *
        have HWB := Lib.hid hwb
        clear hwb
        have c0 := hC.cell (i := 0) rfl
        have c1 := hC.cell (i := 1) rfl
        have c2 := hC.cell (i := 2) rfl
        have c3 := hC.cell (i := 3) rfl
        go_upto_region 2 with (first | (go_at_call 26; refine (HC.out _).mono ?_; rintro e w2 ⟨rfl, hs2⟩) | (refine wpList_store_blk rfl 26 (.tmp 5) (.tmp 12) rfl (hC.keep hs2 (fun h => h)) rfl (vs := [.int .i64 ce, .int .i64 cw, .int .i64 cr, .int .i64 cf]) rfl (by kernel_rfl) rfl (fun v hv => by simp only [List.mem_cons, List.not_mem_nil, or_false] at hv; rcases hv with rfl | rfl | rfl | rfl <;> rfl) ?_; intro w3 hC3 hs3))
        have hP3 := (hP.keep hs2 (fun h => h)).keep hs3 (fun e => by omega)
        have hZ3 := (hZ.keep hs2 (fun h => h)).keep hs3 (fun e => by omega)
        clear c0 c1 c2 c3
        have c2 := hC3.cell (i := 2) rfl
        have c3 := hC3.cell (i := 3) rfl
        have p03 := hP3.cell (i := 0) rfl
        have f03 := hP3.free 0
        have p13 := hP3.cell (i := 1) rfl
        have f13 := hP3.free 1
        have p23 := hP3.cell (i := 2) rfl
        have f23 := hP3.free 2
        have p33 := hP3.cell (i := 3) rfl
        have f33 := hP3.free 3
        have hst3 : Step (fun k => wb ≤ k) w w3 := ((hs1.same hs2).mono (fun _ _ h => h.elim)).same (hs3.mono (fun k _ e => by rw [show k = wb + 1 from e]; omega))
        clear hs2 hs3 hP hC hZ hC3
        go_upto_region 7 with (first | (go_at_call_of 68 (Value.int .i64 pg); refine (HRG.out _).mono ?_; rintro e w4 ⟨rfl, rfl⟩) | (go_at_call_of 68 (Value.int .i64 pb); refine (HRB.out _).mono ?_; rintro e w4 ⟨rfl, rfl⟩))
        refine put_plain hP3 ?_
        intro w4 hP4 hs4
        clear p03 f03 p13 f13 p23 f23 p33 f33
        have p04 := hP4.cell (i := 0) rfl
        have f04 := hP4.free 0
        have p14 := hP4.cell (i := 1) rfl
        have f14 := hP4.free 1
        have p24 := hP4.cell (i := 2) rfl
        have f24 := hP4.free 2
        have p34 := hP4.cell (i := 3) rfl
        have f34 := hP4.free 3
        go_upto_region 10 with (fail)
        refine put_plain hP4 ?_
        intro w5 hP5 hs5
        clear p04 f04 p14 f14 p24 f24 p34 f34
        have p05 := hP5.cell (i := 0) rfl
        have f05 := hP5.free 0
        have p15 := hP5.cell (i := 1) rfl
        have f15 := hP5.free 1
        have p25 := hP5.cell (i := 2) rfl
        have f25 := hP5.free 2
        have p35 := hP5.cell (i := 3) rfl
        have f35 := hP5.free 3
        go_upto_region 12 with (fail)
        refine put_plain (w := w5.setCell ⟨wb, 0, none⟩ (.bool true)) (hP5.set 0 _) ?_
        intro w6 hP6 hs6'
        have hs6 : Step (· = wb) w5 w6 := (step_put w5 wb 0 _).same hs6'
        clear p05 f05 p15 f15 p25 f25 p35 f35
        have p06 := hP6.cell (i := 0) rfl
        have f06 := hP6.free 0
        have p16 := hP6.cell (i := 1) rfl
        have f16 := hP6.free 1
        have p26 := hP6.cell (i := 2) rfl
        have f26 := hP6.free 2
        have p36 := hP6.cell (i := 3) rfl
        have f36 := hP6.free 3
        have hZ9 := (((hZ3.keep hs4 (fun e => by omega)).keep hs5 (fun e => by omega)).keep hs6 (fun e => by omega))
        go_wp2_with (refine wpList_store_blk rfl 75 (.tmp 8) (.tmp 53) rfl hZ9 rfl (vs := [.bool true, .int .i64 0, .int .i64 0, .int .i64 now]) rfl (by kernel_rfl) rfl (fun v hv => by simp only [List.mem_cons, List.not_mem_nil, or_false] at hv; rcases hv with rfl | rfl | rfl | rfl <;> rfl) ?_; intro w9 hZ10 hs9)
        try simp only [Exit.inBlock, Exit.then]
        have hst9 : Step (fun k => wb ≤ k) w w9 := ((((hst3.same (hs4.mono (fun k _ e => by rw [show k = wb from e]; omega))).same (hs5.mono (fun k _ e => by rw [show k = wb from e]; omega))).same (hs6.mono (fun k _ e => by rw [show k = wb from e]; omega))).same (hs9.mono (fun k _ e => by rw [show k = wb + 1 + 1 from e]; omega)))
        rw [← HWB.out] at hst9
        exact post_cell_tmp (cs := [.bool true, .int .i64 0, .int .i64 0, .int .i64 now]) rfl rfl hZ10 Try.underlying75 rfl (by kernel_rfl) rfl rfl ⟨rfl, step_fresh hst9⟩
      · rw [if_neg hr] at HRG
        have e0 : resP ⟨false, pg, pb, ps⟩ ⟨ce, cw, cr, cf⟩ true now = (⟨false, (pg + 1), 0, ps⟩, false) := by unfold resP; simp only; rw [if_neg hr]
        rw [e0]
        simp only
        clear e0
        go_enter Try.func52, Try.ntmps52
        go_upto_region 1 with (fail)
        refine alloc_next3 (cs := [.bool false, .int .i64 pg, .int .i64 pb, .int .i64 ps]) (ds := [.int .i64 ce, .int .i64 cw, .int .i64 cr, .int .i64 cf]) (es := [.bool false, .int .i64 0, .int .i64 0, .int .i64 0]) ?_
        intro w1 hP hC hZ hs1 hz1
        generalize hwb : w.heap.size = wb at *
        have HWB := Lib.hid hwb
        clear hwb
        have c0 := hC.cell (i := 0) rfl
        have c1 := hC.cell (i := 1) rfl
        have c2 := hC.cell (i := 2) rfl
        have c3 := hC.cell (i := 3) rfl
        go_upto_region 2 with (first | (go_at_call 26; refine (HC.out _).mono ?_; rintro e w2 ⟨rfl, hs2⟩) | (refine wpList_store_blk rfl 26 (.tmp 5) (.tmp 12) rfl (hC.keep hs2 (fun h => h)) rfl (vs := [.int .i64 ce, .int .i64 cw, .int .i64 cr, .int .i64 cf]) rfl (by kernel_rfl) rfl (fun v hv => by simp only [List.mem_cons, List.not_mem_nil, or_false] at hv; rcases hv with rfl | rfl | rfl | rfl <;> rfl) ?_; intro w3 hC3 hs3))
        have hP3 := (hP.keep hs2 (fun h => h)).keep hs3 (fun e => by omega)
        have hZ3 := (hZ.keep hs2 (fun h => h)).keep hs3 (fun e => by omega)
        clear c0 c1 c2 c3
        have c2 := hC3.cell (i := 2) rfl
        have c3 := hC3.cell (i := 3) rfl
        have p03 := hP3.cell (i := 0) rfl
        have f03 := hP3.free 0
        have p13 := hP3.cell (i := 1) rfl
        have f13 := hP3.free 1
        have p23 := hP3.cell (i := 2) rfl
        have f23 := hP3.free 2
        have p33 := hP3.cell (i := 3) rfl
        have f33 := hP3.free 3
        have hst3 : Step (fun k => wb ≤ k) w w3 := ((hs1.same hs2).mono (fun _ _ h => h.elim)).same (hs3.mono (fun k _ e => by rw [show k = wb + 1 from e]; omega))
        clear hs2 hs3 hP hC hZ hC3
        go_upto_region 7 with (first | (go_at_call_of 68 (Value.int .i64 pg); refine (HRG.out _).mono ?_; rintro e w4 ⟨rfl, rfl⟩) | (go_at_call_of 68 (Value.int .i64 pb); refine (HRB.out _).mono ?_; rintro e w4 ⟨rfl, rfl⟩))
        refine put_plain hP3 ?_
        intro w4 hP4 hs4
        clear p03 f03 p13 f13 p23 f23 p33 f33
        have p04 := hP4.cell (i := 0) rfl
        have f04 := hP4.free 0
        have p14 := hP4.cell (i := 1) rfl
        have f14 := hP4.free 1
        have p24 := hP4.cell (i := 2) rfl
        have f24 := hP4.free 2
        have p34 := hP4.cell (i := 3) rfl
        have f34 := hP4.free 3
        go_upto_region 10 with (fail)
        refine put_plain hP4 ?_
        intro w5 hP5 hs5
        clear p04 f04 p14 f14 p24 f24 p34 f34
        have p05 := hP5.cell (i := 0) rfl
        have f05 := hP5.free 0
        have p15 := hP5.cell (i := 1) rfl
        have f15 := hP5.free 1
        have p25 := hP5.cell (i := 2) rfl
        have f25 := hP5.free 2
        have p35 := hP5.cell (i := 3) rfl
        have f35 := hP5.free 3
        have hZ9 := ((hZ3.keep hs4 (fun e => by omega)).keep hs5 (fun e => by omega))
        go_wp2_with (refine wpList_store_blk rfl 75 (.tmp 8) (.tmp 53) rfl hZ9 rfl (vs := [.bool false, .int .i64 (pg + 1), .int .i64 0, .int .i64 ps]) rfl (by kernel_rfl) rfl (fun v hv => by simp only [List.mem_cons, List.not_mem_nil, or_false] at hv; rcases hv with rfl | rfl | rfl | rfl <;> rfl) ?_; intro w9 hZ10 hs9)
        try simp only [Exit.inBlock, Exit.then]
        have hst9 : Step (fun k => wb ≤ k) w w9 := (((hst3.same (hs4.mono (fun k _ e => by rw [show k = wb from e]; omega))).same (hs5.mono (fun k _ e => by rw [show k = wb from e]; omega))).same (hs9.mono (fun k _ e => by rw [show k = wb + 1 + 1 from e]; omega)))
        rw [← HWB.out] at hst9
        exact post_cell_tmp (cs := [.bool false, .int .i64 (pg + 1), .int .i64 0, .int .i64 ps]) rfl rfl hZ10 Try.underlying75 rfl (by kernel_rfl) rfl rfl ⟨rfl, step_fresh hst9⟩
    | true =>
      have e0 : resP ⟨true, pg, pb, ps⟩ ⟨ce, cw, cr, cf⟩ true now = (⟨true, pg, 0, ps⟩, false) := by unfold resP; simp only
      rw [e0]
      simp only
      clear e0
      go_enter Try.func52, Try.ntmps52
      go_upto_region 1 with (fail)
      refine alloc_next3 (cs := [.bool true, .int .i64 pg, .int .i64 pb, .int .i64 ps]) (ds := [.int .i64 ce, .int .i64 cw, .int .i64 cr, .int .i64 cf]) (es := [.bool false, .int .i64 0, .int .i64 0, .int .i64 0]) ?_
      intro w1 hP hC hZ hs1 hz1
      generalize hwb : w.heap.size = wb at *
      have HWB := Lib.hid hwb
      clear hwb
      have c0 := hC.cell (i := 0) rfl
      have c1 := hC.cell (i := 1) rfl
      have c2 := hC.cell (i := 2) rfl
      have c3 := hC.cell (i := 3) rfl
      go_upto_region 2 with (first | (go_at_call 26; refine (HC.out _).mono ?_; rintro e w2 ⟨rfl, hs2⟩) | (refine wpList_store_blk rfl 26 (.tmp 5) (.tmp 12) rfl (hC.keep hs2 (fun h => h)) rfl (vs := [.int .i64 ce, .int .i64 cw, .int .i64 cr, .int .i64 cf]) rfl (by kernel_rfl) rfl (fun v hv => by simp only [List.mem_cons, List.not_mem_nil, or_false] at hv; rcases hv with rfl | rfl | rfl | rfl <;> rfl) ?_; intro w3 hC3 hs3))
      have hP3 := (hP.keep hs2 (fun h => h)).keep hs3 (fun e => by omega)
      have hZ3 := (hZ.keep hs2 (fun h => h)).keep hs3 (fun e => by omega)
      clear c0 c1 c2 c3
      have c2 := hC3.cell (i := 2) rfl
      have c3 := hC3.cell (i := 3) rfl
      have p03 := hP3.cell (i := 0) rfl
      have f03 := hP3.free 0
      have p13 := hP3.cell (i := 1) rfl
      have f13 := hP3.free 1
      have p23 := hP3.cell (i := 2) rfl
      have f23 := hP3.free 2
      have p33 := hP3.cell (i := 3) rfl
      have f33 := hP3.free 3
      have hst3 : Step (fun k => wb ≤ k) w w3 := ((hs1.same hs2).mono (fun _ _ h => h.elim)).same (hs3.mono (fun k _ e => by rw [show k = wb + 1 from e]; omega))
      clear hs2 hs3 hP hC hZ hC3
      go_upto_region 7 with (fail)
      go_upto_region 10 with (fail)
      refine put_plain hP3 ?_
      intro w5 hP5 hs5
      clear p03 f03 p13 f13 p23 f23 p33 f33
      have p05 := hP5.cell (i := 0) rfl
      have f05 := hP5.free 0
      have p15 := hP5.cell (i := 1) rfl
      have f15 := hP5.free 1
      have p25 := hP5.cell (i := 2) rfl
      have f25 := hP5.free 2
      have p35 := hP5.cell (i := 3) rfl
      have f35 := hP5.free 3
      have hZ9 := (hZ3.keep hs5 (fun e => by omega))
      go_wp2_with (refine wpList_store_blk rfl 75 (.tmp 8) (.tmp 53) rfl hZ9 rfl (vs := [.bool true, .int .i64 pg, .int .i64 0, .int .i64 ps]) rfl (by kernel_rfl) rfl (fun v hv => by simp only [List.mem_cons, List.not_mem_nil, or_false] at hv; rcases hv with rfl | rfl | rfl | rfl <;> rfl) ?_; intro w9 hZ10 hs9)
      try simp only [Exit.inBlock, Exit.then]
      have hst9 : Step (fun k => wb ≤ k) w w9 := ((hst3.same (hs5.mono (fun k _ e => by rw [show k = wb from e]; omega))).same (hs9.mono (fun k _ e => by rw [show k = wb + 1 + 1 from e]; omega)))
      rw [← HWB.out] at hst9
      exact post_cell_tmp (cs := [.bool true, .int .i64 pg, .int .i64 0, .int .i64 ps]) rfl rfl hZ10 Try.underlying75 rfl (by kernel_rfl) rfl rfl ⟨rfl, step_fresh hst9⟩
  | false =>
    cases up with
    | true =>
      by_cases hr : cf ≤ pb + 1
      · rw [if_pos hr] at HRB
        have e0 : resP ⟨true, pg, pb, ps⟩ ⟨ce, cw, cr, cf⟩ false now = (⟨false, 0, 0, now⟩, true) := by unfold resP; simp only; rw [if_pos hr]
        rw [e0]
        simp only
        clear e0
        go_enter Try.func52, Try.ntmps52
        go_upto_region 1 with (fail)
        refine alloc_next3 (cs := [.bool true, .int .i64 pg, .int .i64 pb, .int .i64 ps]) (ds := [.int .i64 ce, .int .i64 cw, .int .i64 cr, .int .i64 cf]) (es := [.bool false, .int .i64 0, .int .i64 0, .int .i64 0]) ?_
        intro w1 hP hC hZ hs1 hz1
        generalize hwb : w.heap.size = wb at *
        have HWB := Lib.hid hwb
        clear hwb
        have c0 := hC.cell (i := 0) rfl
        have c1 := hC.cell (i := 1) rfl
        have c2 := hC.cell (i := 2) rfl
        have c3 := hC.cell (i := 3) rfl
        go_upto_region 2 with (first | (go_at_call 26; refine (HC.out _).mono ?_; rintro e w2 ⟨rfl, hs2⟩) | (refine wpList_store_blk rfl 26 (.tmp 5) (.tmp 12) rfl (hC.keep hs2 (fun h => h)) rfl (vs := [.int .i64 ce, .int .i64 cw, .int .i64 cr, .int .i64 cf]) rfl (by kernel_rfl) rfl (fun v hv => by simp only [List.mem_cons, List.not_mem_nil, or_false] at hv; rcases hv with rfl | rfl | rfl | rfl <;> rfl) ?_; intro w3 hC3 hs3))
        have hP3 := (hP.keep hs2 (fun h => h)).keep hs3 (fun e => by omega)
        have hZ3 := (hZ.keep hs2 (fun h => h)).keep hs3 (fun e => by omega)
        clear c0 c1 c2 c3
        have c2 := hC3.cell (i := 2) rfl
        have c3 := hC3.cell (i := 3) rfl
        have p03 := hP3.cell (i := 0) rfl
        have f03 := hP3.free 0
        have p13 := hP3.cell (i := 1) rfl
        have f13 := hP3.free 1
        have p23 := hP3.cell (i := 2) rfl
        have f23 := hP3.free 2
        have p33 := hP3.cell (i := 3) rfl
        have f33 := hP3.free 3
        have hst3 : Step (fun k => wb ≤ k) w w3 := ((hs1.same hs2).mono (fun _ _ h => h.elim)).same (hs3.mono (fun k _ e => by rw [show k = wb + 1 from e]; omega))
        clear hs2 hs3 hP hC hZ hC3
        go_upto_region 7 with (first | (go_at_call_of 68 (Value.int .i64 pg); refine (HRG.out _).mono ?_; rintro e w4 ⟨rfl, rfl⟩) | (go_at_call_of 68 (Value.int .i64 pb); refine (HRB.out _).mono ?_; rintro e w4 ⟨rfl, rfl⟩))
        refine put_plain hP3 ?_
        intro w4 hP4 hs4
        clear p03 f03 p13 f13 p23 f23 p33 f33
        have p04 := hP4.cell (i := 0) rfl
        have f04 := hP4.free 0
        have p14 := hP4.cell (i := 1) rfl
        have f14 := hP4.free 1
        have p24 := hP4.cell (i := 2) rfl
        have f24 := hP4.free 2
        have p34 := hP4.cell (i := 3) rfl
        have f34 := hP4.free 3
        go_upto_region 10 with (fail)
        refine put_plain hP4 ?_
        intro w5 hP5 hs5
        clear p04 f04 p14 f14 p24 f24 p34 f34
        have p05 := hP5.cell (i := 0) rfl
        have f05 := hP5.free 0
        have p15 := hP5.cell (i := 1) rfl
        have f15 := hP5.free 1
        have p25 := hP5.cell (i := 2) rfl
        have f25 := hP5.free 2
        have p35 := hP5.cell (i := 3) rfl
        have f35 := hP5.free 3
        go_upto_region 12 with (fail)
        refine put_plain (w := w5.setCell ⟨wb, 0, none⟩ (.bool false)) (hP5.set 0 _) ?_
        intro w6 hP6 hs6'
        have hs6 : Step (· = wb) w5 w6 := (step_put w5 wb 0 _).same hs6'
        clear p05 f05 p15 f15 p25 f25 p35 f35
        have p06 := hP6.cell (i := 0) rfl
        have f06 := hP6.free 0
        have p16 := hP6.cell (i := 1) rfl
        have f16 := hP6.free 1
        have p26 := hP6.cell (i := 2) rfl
        have f26 := hP6.free 2
        have p36 := hP6.cell (i := 3) rfl
        have f36 := hP6.free 3
        have hZ9 := (((hZ3.keep hs4 (fun e => by omega)).keep hs5 (fun e => by omega)).keep hs6 (fun e => by omega))
        go_wp2_with (refine wpList_store_blk rfl 75 (.tmp 8) (.tmp 53) rfl hZ9 rfl (vs := [.bool false, .int .i64 0, .int .i64 0, .int .i64 now]) rfl (by kernel_rfl) rfl (fun v hv => by simp only [List.mem_cons, List.not_mem_nil, or_false] at hv; rcases hv with rfl | rfl | rfl | rfl <;> rfl) ?_; intro w9 hZ10 hs9)
        try simp only [Exit.inBlock, Exit.then]
        have hst9 : Step (fun k => wb ≤ k) w w9 := ((((hst3.same (hs4.mono (fun k _ e => by rw [show k = wb from e]; omega))).same (hs5.mono (fun k _ e => by rw [show k = wb from e]; omega))).same (hs6.mono (fun k _ e => by rw [show k = wb from e]; omega))).same (hs9.mono (fun k _ e => by rw [show k = wb + 1 + 1 from e]; omega)))
        rw [← HWB.out] at hst9
        exact post_cell_tmp (cs := [.bool false, .int .i64 0, .int .i64 0, .int .i64 now]) rfl rfl hZ10 Try.underlying75 rfl (by kernel_rfl) rfl rfl ⟨rfl, step_fresh hst9⟩
      · rw [if_neg hr] at HRB
        have e0 : resP ⟨true, pg, pb, ps⟩ ⟨ce, cw, cr, cf⟩ false now = (⟨true, 0, (pb + 1), ps⟩, false) := by unfold resP; simp only; rw [if_neg hr]
        rw [e0]
        simp only
        clear e0
        go_enter Try.func52, Try.ntmps52
        go_upto_region 1 with (fail)
        refine alloc_next3 (cs := [.bool true, .int .i64 pg, .int .i64 pb, .int .i64 ps]) (ds := [.int .i64 ce, .int .i64 cw, .int .i64 cr, .int .i64 cf]) (es := [.bool false, .int .i64 0, .int .i64 0, .int .i64 0]) ?_
        intro w1 hP hC hZ hs1 hz1
        generalize hwb : w.heap.size = wb at *
        have HWB := Lib.hid hwb
        clear hwb
        have c0 := hC.cell (i := 0) rfl
        have c1 := hC.cell (i := 1) rfl
        have c2 := hC.cell (i := 2) rfl
        have c3 := hC.cell (i := 3) rfl
        go_upto_region 2 with (first | (go_at_call 26; refine (HC.out _).mono ?_; rintro e w2 ⟨rfl, hs2⟩) | (refine wpList_store_blk rfl 26 (.tmp 5) (.tmp 12) rfl (hC.keep hs2 (fun h => h)) rfl (vs := [.int .i64 ce, .int .i64 cw, .int .i64 cr, .int .i64 cf]) rfl (by kernel_rfl) rfl (fun v hv => by simp only [List.mem_cons, List.not_mem_nil, or_false] at hv; rcases hv with rfl | rfl | rfl | rfl <;> rfl) ?_; intro w3 hC3 hs3))
        have hP3 := (hP.keep hs2 (fun h => h)).keep hs3 (fun e => by omega)
        have hZ3 := (hZ.keep hs2 (fun h => h)).keep hs3 (fun e => by omega)
        clear c0 c1 c2 c3
        have c2 := hC3.cell (i := 2) rfl
        have c3 := hC3.cell (i := 3) rfl
        have p03 := hP3.cell (i := 0) rfl
        have f03 := hP3.free 0
        have p13 := hP3.cell (i := 1) rfl
        have f13 := hP3.free 1
        have p23 := hP3.cell (i := 2) rfl
        have f23 := hP3.free 2
        have p33 := hP3.cell (i := 3) rfl
        have f33 := hP3.free 3
        have hst3 : Step (fun k => wb ≤ k) w w3 := ((hs1.same hs2).mono (fun _ _ h => h.elim)).same (hs3.mono (fun k _ e => by rw [show k = wb + 1 from e]; omega))
        clear hs2 hs3 hP hC hZ hC3
        go_upto_region 7 with (first | (go_at_call_of 68 (Value.int .i64 pg); refine (HRG.out _).mono ?_; rintro e w4 ⟨rfl, rfl⟩) | (go_at_call_of 68 (Value.int .i64 pb); refine (HRB.out _).mono ?_; rintro e w4 ⟨rfl, rfl⟩))
        refine put_plain hP3 ?_
        intro w4 hP4 hs4
        clear p03 f03 p13 f13 p23 f23 p33 f33
        have p04 := hP4.cell (i := 0) rfl
        have f04 := hP4.free 0
        have p14 := hP4.cell (i := 1) rfl
        have f14 := hP4.free 1
        have p24 := hP4.cell (i := 2) rfl
        have f24 := hP4.free 2
        have p34 := hP4.cell (i := 3) rfl
        have f34 := hP4.free 3
        go_upto_region 10 with (fail)
        refine put_plain hP4 ?_
        intro w5 hP5 hs5
        clear p04 f04 p14 f14 p24 f24 p34 f34
        have p05 := hP5.cell (i := 0) rfl
        have f05 := hP5.free 0
        have p15 := hP5.cell (i := 1) rfl
        have f15 := hP5.free 1
        have p25 := hP5.cell (i := 2) rfl
        have f25 := hP5.free 2
        have p35 := hP5.cell (i := 3) rfl
        have f35 := hP5.free 3
        have hZ9 := ((hZ3.keep hs4 (fun e => by omega)).keep hs5 (fun e => by omega))
        go_wp2_with (refine wpList_store_blk rfl 75 (.tmp 8) (.tmp 53) rfl hZ9 rfl (vs := [.bool true, .int .i64 0, .int .i64 (pb + 1), .int .i64 ps]) rfl (by kernel_rfl) rfl (fun v hv => by simp only [List.mem_cons, List.not_mem_nil, or_false] at hv; rcases hv with rfl | rfl | rfl | rfl <;> rfl) ?_; intro w9 hZ10 hs9)
        try simp only [Exit.inBlock, Exit.then]
        have hst9 : Step (fun k => wb ≤ k) w w9 := (((hst3.same (hs4.mono (fun k _ e => by rw [show k = wb from e]; omega))).same (hs5.mono (fun k _ e => by rw [show k = wb from e]; omega))).same (hs9.mono (fun k _ e => by rw [show k = wb + 1 + 1 from e]; omega)))
        rw [← HWB.out] at hst9
        exact post_cell_tmp (cs := [.bool true, .int .i64 0, .int .i64 (pb + 1), .int .i64 ps]) rfl rfl hZ10 Try.underlying75 rfl (by kernel_rfl) rfl rfl ⟨rfl, step_fresh hst9⟩
    | false =>
      have e0 : resP ⟨false, pg, pb, ps⟩ ⟨ce, cw, cr, cf⟩ false now = (⟨false, 0, pb, ps⟩, false) := by unfold resP; simp only
      rw [e0]
      simp only
      clear e0
      go_enter Try.func52, Try.ntmps52
      go_upto_region 1 with (fail)
      refine alloc_next3 (cs := [.bool false, .int .i64 pg, .int .i64 pb, .int .i64 ps]) (ds := [.int .i64 ce, .int .i64 cw, .int .i64 cr, .int .i64 cf]) (es := [.bool false, .int .i64 0, .int .i64 0, .int .i64 0]) ?_
      intro w1 hP hC hZ hs1 hz1
      generalize hwb : w.heap.size = wb at *
      have HWB := Lib.hid hwb
      clear hwb
      have c0 := hC.cell (i := 0) rfl
      have c1 := hC.cell (i := 1) rfl
      have c2 := hC.cell (i := 2) rfl
      have c3 := hC.cell (i := 3) rfl
      go_upto_region 2 with (first | (go_at_call 26; refine (HC.out _).mono ?_; rintro e w2 ⟨rfl, hs2⟩) | (refine wpList_store_blk rfl 26 (.tmp 5) (.tmp 12) rfl (hC.keep hs2 (fun h => h)) rfl (vs := [.int .i64 ce, .int .i64 cw, .int .i64 cr, .int .i64 cf]) rfl (by kernel_rfl) rfl (fun v hv => by simp only [List.mem_cons, List.not_mem_nil, or_false] at hv; rcases hv with rfl | rfl | rfl | rfl <;> rfl) ?_; intro w3 hC3 hs3))
      have hP3 := (hP.keep hs2 (fun h => h)).keep hs3 (fun e => by omega)
      have hZ3 := (hZ.keep hs2 (fun h => h)).keep hs3 (fun e => by omega)
      clear c0 c1 c2 c3
      have c2 := hC3.cell (i := 2) rfl
      have c3 := hC3.cell (i := 3) rfl
      have p03 := hP3.cell (i := 0) rfl
      have f03 := hP3.free 0
      have p13 := hP3.cell (i := 1) rfl
      have f13 := hP3.free 1
      have p23 := hP3.cell (i := 2) rfl
      have f23 := hP3.free 2
      have p33 := hP3.cell (i := 3) rfl
      have f33 := hP3.free 3
      have hst3 : Step (fun k => wb ≤ k) w w3 := ((hs1.same hs2).mono (fun _ _ h => h.elim)).same (hs3.mono (fun k _ e => by rw [show k = wb + 1 from e]; omega))
      clear hs2 hs3 hP hC hZ hC3
      go_upto_region 7 with (fail)
      go_upto_region 10 with (fail)
      refine put_plain hP3 ?_
      intro w5 hP5 hs5
      clear p03 f03 p13 f13 p23 f23 p33 f33
      have p05 := hP5.cell (i := 0) rfl
      have f05 := hP5.free 0
      have p15 := hP5.cell (i := 1) rfl
      have f15 := hP5.free 1
      have p25 := hP5.cell (i := 2) rfl
      have f25 := hP5.free 2
      have p35 := hP5.cell (i := 3) rfl
      have f35 := hP5.free 3
      have hZ9 := (hZ3.keep hs5 (fun e => by omega))
      go_wp2_with (refine wpList_store_blk rfl 75 (.tmp 8) (.tmp 53) rfl hZ9 rfl (vs := [.bool false, .int .i64 0, .int .i64 pb, .int .i64 ps]) rfl (by kernel_rfl) rfl (fun v hv => by simp only [List.mem_cons, List.not_mem_nil, or_false] at hv; rcases hv with rfl | rfl | rfl | rfl <;> rfl) ?_; intro w9 hZ10 hs9)
      try simp only [Exit.inBlock, Exit.then]
      have hst9 : Step (fun k => wb ≤ k) w w9 := ((hst3.same (hs5.mono (fun k _ e => by rw [show k = wb from e]; omega))).same (hs9.mono (fun k _ e => by rw [show k = wb + 1 + 1 from e]; omega)))
      rw [← HWB.out] at hst9
      exact post_cell_tmp (cs := [.bool false, .int .i64 0, .int .i64 pb, .int .i64 ps]) rfl rfl hZ10 Try.underlying75 rfl (by kernel_rfl) rfl rfl ⟨rfl, step_fresh hst9⟩
end Go.Proofs.Ytghiklaeenhljaa.Hea
