/- the document's health: tick, Clip, New; a probe's Result; set. Printed by wip/tools/gen_hed2.py; own work of this seat. -/
import Derived.Test.YtghiklaeenhljaaHeD1
namespace Go.Proofs.Ytghiklaeenhljaa.HeD
open Go.RowKit Go.Proofs.Ytghiklaeenhljaa.Kit Go.Proofs.Ytghiklaeenhljaa.It Go.Proofs.Ytghiklaeenhljaa.Hea Go.Proofs.YtghiklaeenhljaaW.PrintWords Go.Proofs.Ytghiklaeenhljaa
set_option linter.unusedVariables false
set_option linter.unusedSimpArgs false

theorem post_ct {P : Program} {fn : Func} {R : Ending → World → Prop} {p u : Tmp} {ty : TypeId} (h : fn.results = #[.cell p ty, .tmp u]) {a : Act} {w : World} {g : Nat} {T : TypeId} {cs : List Value} {d : TypeDesc} {v : Value} (hp : a.tmps.getD p undef = .pointer (some ⟨g, 0, none⟩)) (hE : Blk w g T cs)
    (hu : P.underlying ty = some d) (hd : (match d with | .struct _ | .array _ _ => true | _ => false) = true) (hi : (P.info? ty).map (·.size) = some cs.length) (hv : a.tmps.getD u undef = v) (hdef : a.defers = []) (hR : R (.returned (.tuple #[.agg cs.toArray, v])) w) : bodyPost P fn R .ret a w := by
  refine bodyPost_ret ?_ hdef hR
  have hr := run_loadVar_row (P := P) w g T ty cs.toArray (0, 0) d hE hu hd (by simpa using hi)
  have hp' : a.tmps[p]?.getD undef = .pointer (some ⟨g, 0, none⟩) := by simpa using hp
  have hv' : a.tmps[u]?.getD undef = v := by simpa using hv
  simp [results, h, hp', hv', asAddr, hr]
theorem post_c {P : Program} {fn : Func} {R : Ending → World → Prop} {p : Tmp} {ty : TypeId} (h : fn.results = #[.cell p ty]) {a : Act} {w : World} {g : Nat} {T : TypeId} {cs : List Value} {d : TypeDesc} (hp : a.tmps.getD p undef = .pointer (some ⟨g, 0, none⟩)) (hE : Blk w g T cs)
    (hu : P.underlying ty = some d) (hd : (match d with | .struct _ | .array _ _ => true | _ => false) = true) (hi : (P.info? ty).map (·.size) = some cs.length) (hdef : a.defers = []) (hR : R (.returned (.agg cs.toArray)) w) : bodyPost P fn R .ret a w := by
  refine bodyPost_ret ?_ hdef hR
  have hr := run_loadVar_row (P := P) w g T ty cs.toArray (0, 0) d hE hu hd (by simpa using hi)
  have hp' : a.tmps[p]?.getD undef = .pointer (some ⟨g, 0, none⟩) := by simpa using hp
  simp [results, h, hp', asAddr, hr]
theorem post_ctt {P : Program} {fn : Func} {R : Ending → World → Prop} {p u v : Tmp} {ty : TypeId} (h : fn.results = #[.cell p ty, .tmp u, .tmp v]) {a : Act} {w : World} {g : Nat} {T : TypeId} {cs : List Value} {d : TypeDesc} {vu vv : Value} (hp : a.tmps.getD p undef = .pointer (some ⟨g, 0, none⟩)) (hE : Blk w g T cs)
    (hu : P.underlying ty = some d) (hd : (match d with | .struct _ | .array _ _ => true | _ => false) = true) (hi : (P.info? ty).map (·.size) = some cs.length) (hvu : a.tmps.getD u undef = vu) (hvv : a.tmps.getD v undef = vv) (hdef : a.defers = []) (hR : R (.returned (.tuple #[.agg cs.toArray, vu, vv])) w) : bodyPost P fn R .ret a w := by
  refine bodyPost_ret ?_ hdef hR
  have hr := run_loadVar_row (P := P) w g T ty cs.toArray (0, 0) d hE hu hd (by simpa using hi)
  have hp' : a.tmps[p]?.getD undef = .pointer (some ⟨g, 0, none⟩) := by simpa using hp
  have hu' : a.tmps[u]?.getD undef = vu := by simpa using hvu
  have hv' : a.tmps[v]?.getD undef = vv := by simpa using hvv
  simp [results, h, hp', hu', hv', asAddr, hr]

theorem cell7 (a b c d : Int) (A : Option Addr) (n cA : Nat) (B : Option Addr) (m cB : Nat) (ep : Int) : ∀ v ∈ [Value.int .i64 a, .int .i64 b, .int .i64 c, .int .i64 d, .slice A n cA, .slice B m cB, .int .i64 ep], v.oneCell' = true := by
  intro v hv
  simp only [List.mem_cons, List.not_mem_nil, or_false] at hv
  rcases hv with rfl | rfl | rfl | rfl | rfl | rfl | rfl <;> rfl
theorem cell4 (a : Bool) (b c d : Int) : ∀ v ∈ [Value.bool a, .int .i64 b, .int .i64 c, .int .i64 d], v.oneCell' = true := by
  intro v hv
  simp only [List.mem_cons, List.not_mem_nil, or_false] at hv
  rcases hv with rfl | rfl | rfl | rfl <;> rfl
theorem cell4i (a b c d : Int) : ∀ v ∈ [Value.int .i64 a, .int .i64 b, .int .i64 c, .int .i64 d], v.oneCell' = true := by
  intro v hv
  simp only [List.mem_cons, List.not_mem_nil, or_false] at hv
  rcases hv with rfl | rfl | rfl | rfl <;> rfl
theorem dtick_calls (now : Int) (w : World) : Calls Try.prog 59 #[.int .i64 now] w fun e w' => e = .returned (.int .i64 (AgStr.clipT now)) ∧ w = w' := by
  have hcl : (if (0 : Int) < (if (1099511627776 : Int) < now then 1099511627776 else now) then (if (1099511627776 : Int) < now then 1099511627776 else now) else 0) = AgStr.clipT now := clipI_if now
  have hcl2 : max 0 (min now 1099511627776) = AgStr.clipT now := rfl
  generalize AgStr.clipT now = v at *
  obtain ⟨mq, hmq⟩ : ∃ mq, (if (1099511627776 : Int) < now then 1099511627776 else now) = mq := ⟨_, rfl⟩
  rw [hmq] at hcl
  go_enter Try.func59, Try.ntmps59
  go_wp2
  go_ret
  exact ⟨rfl, rfl⟩
theorem mx_mn (x m : Int) : (if (1 : Int) < (if m < x then m else x) then (if m < x then m else x) else 1) = mx 1 (mn x m) := rfl
theorem mx_mn2 (x m : Int) : max 1 (min x m) = mx 1 (mn x m) := by
  unfold mx mn
  split <;> split <;> omega
theorem clipC_id {c : Cf} (hc : CfOk c) : clipC c = c := by
  obtain ⟨a, b, d, e⟩ := c
  obtain ⟨h1, h2, h3, h4⟩ := hc
  simp only at h1 h2 h3 h4
  unfold clipC mx mn
  simp only [Cf.mk.injEq]
  refine ⟨?_, ?_, ?_, ?_⟩ <;> (split <;> split <;> omega)

set_option maxRecDepth 100000 in
set_option maxHeartbeats 2000000 in
theorem dclip_calls (c : Cf) (w : World) : Calls Try.prog 41 #[.agg #[.int .i64 c.every, .int .i64 c.wait, .int .i64 c.rise, .int .i64 c.fall]] w fun e w' => e = .returned (.agg #[.int .i64 (clipC c).every, .int .i64 (clipC c).wait, .int .i64 (clipC c).rise, .int .i64 (clipC c).fall]) ∧ Step (fun _ => False) w w' := by
  obtain ⟨a, b, d, g⟩ := c
  unfold clipC
  simp only
  have ha := mx_mn a 1048576
  have hb := mx_mn b 1048576
  have hd := mx_mn d 1000
  have hg := mx_mn g 1000
  have ja := mx_mn2 a 1048576
  have jb := mx_mn2 b 1048576
  have jd := mx_mn2 d 1000
  have jg := mx_mn2 g 1000
  generalize mx 1 (mn a 1048576) = a2 at *
  generalize mx 1 (mn b 1048576) = b2 at *
  generalize mx 1 (mn d 1000) = d2 at *
  generalize mx 1 (mn g 1000) = g2 at *
  obtain ⟨a1, ha1⟩ : ∃ q, (if (1048576 : Int) < a then 1048576 else a) = q := ⟨_, rfl⟩
  obtain ⟨b1, hb1⟩ : ∃ q, (if (1048576 : Int) < b then 1048576 else b) = q := ⟨_, rfl⟩
  obtain ⟨d1, hd1⟩ : ∃ q, (if (1000 : Int) < d then 1000 else d) = q := ⟨_, rfl⟩
  obtain ⟨g1, hg1⟩ : ∃ q, (if (1000 : Int) < g then 1000 else g) = q := ⟨_, rfl⟩
  rw [ha1] at ha
  rw [hb1] at hb
  rw [hd1] at hd
  rw [hg1] at hg
  go_enter Try.func41, Try.ntmps41
  go_upto_region 1 with (fail)
  refine alloc_next2 (cs := [.int .i64 a, .int .i64 b, .int .i64 d, .int .i64 g]) (ds := [.int .i64 0, .int .i64 0, .int .i64 0, .int .i64 0]) ?_
  intro w1 hX hR hs1 hl1
  have x0 := hX.cell (i := 0) rfl
  have x1 := hX.cell (i := 1) rfl
  have x2 := hX.cell (i := 2) rfl
  have x3 := hX.cell (i := 3) rfl
  obtain ⟨xb, hxb⟩ : ∃ xb, w.heap.size = xb := ⟨_, rfl⟩
  rw [hxb] at hX hR hl1 x0 x1 x2 x3 ⊢
  have HXB := Lib.hid hxb
  clear hxb hX
  go_wp2_with (refine wpList_store_blk rfl 45 (.tmp 2) (.tmp 19) rfl hR rfl (vs := [.int .i64 a2, .int .i64 b2, .int .i64 d2, .int .i64 g2]) rfl (by kernel_rfl) rfl (cell4i _ _ _ _) ?_; intro w9 hZ9 hs9)
  try simp only [Exit.inBlock, Exit.then]
  refine post_c (cs := [.int .i64 a2, .int .i64 b2, .int .i64 d2, .int .i64 g2]) rfl rfl hZ9 Try.underlying45 rfl (by kernel_rfl) rfl ?_
  exact ⟨rfl, hs1.trans hs9 (fun j hj e => by have := HXB.out; omega)⟩

set_option maxRecDepth 100000 in
set_option maxHeartbeats 2000000 in
theorem dnew_calls (d : Cf) (w : World) : Calls Try.prog 22 #[.agg #[.int .i64 d.every, .int .i64 d.wait, .int .i64 d.rise, .int .i64 d.fall]] w fun e w' => e = .returned (.agg #[.int .i64 (clipC d).every, .int .i64 (clipC d).wait, .int .i64 (clipC d).rise, .int .i64 (clipC d).fall, .slice none 0 0, .slice none 0 0, .int .i64 0]) ∧ Step (fun _ => False) w w' := by
  have HC := Lib.hid (fun w1 => dclip_calls d w1)
  obtain ⟨c0, c1, c2, c3⟩ := d
  generalize clipC ⟨c0, c1, c2, c3⟩ = c at *
  obtain ⟨e0, e1, e2, e3⟩ := c
  simp only at HC ⊢
  go_enter Try.func22, Try.ntmps22
  go_upto_region 1 with (fail)
  refine alloc_next2 (cs := [.int .i64 c0, .int .i64 c1, .int .i64 c2, .int .i64 c3]) (ds := [.int .i64 0, .int .i64 0, .int .i64 0, .int .i64 0, .slice none 0 0, .slice none 0 0, .int .i64 0]) ?_
  intro w1 hX hR hs1 hl1
  have x0 := hX.cell (i := 0) rfl
  have x1 := hX.cell (i := 1) rfl
  have x2 := hX.cell (i := 2) rfl
  have x3 := hX.cell (i := 3) rfl
  obtain ⟨xb, hxb⟩ : ∃ xb, w.heap.size = xb := ⟨_, rfl⟩
  rw [hxb] at hX hR hl1 x0 x1 x2 x3 ⊢
  have HXB := Lib.hid hxb
  clear hxb hX
  go_wp2_with (first | (go_at_call 41; refine (HC.out _).mono ?_; rintro e w2 ⟨rfl, hs2⟩) | (refine wpList_store_blk rfl 60 (.tmp 2) (.tmp 5) rfl (hR.keep hs2 (fun h => h)) rfl (vs := [.int .i64 e0, .int .i64 e1, .int .i64 e2, .int .i64 e3, .slice none 0 0, .slice none 0 0, .int .i64 0]) rfl (by kernel_rfl) rfl (cell7 _ _ _ _ _ _ _ _ _ _ _) ?_; intro w9 hZ9 hs9))
  try simp only [Exit.inBlock, Exit.then]
  refine post_c (cs := [.int .i64 e0, .int .i64 e1, .int .i64 e2, .int .i64 e3, .slice none 0 0, .slice none 0 0, .int .i64 0]) rfl rfl hZ9 Try.underlying60 rfl (by kernel_rfl) rfl ?_
  exact ⟨rfl, (hs1.same hs2).trans hs9 (fun j hj e => by have := HXB.out; omega)⟩


set_option maxRecDepth 100000 in
set_option maxHeartbeats 4000000 in
theorem dres_calls {c : Cf} (hc : CfOk c) {p : Pb} (hp : (0 ≤ p.good ∧ p.good ≤ 1000) ∧ (0 ≤ p.bad ∧ p.bad ≤ 1000)) (good : Bool) (now : Int) (w : World) :
    Calls Try.prog 74 #[.agg #[.bool p.up, .int .i64 p.good, .int .i64 p.bad, .int .i64 p.since], .agg #[.int .i64 c.every, .int .i64 c.wait, .int .i64 c.rise, .int .i64 c.fall], .bool good, .int .i64 now] w fun e w' =>
      e = .returned (.tuple #[.agg #[.bool (resP p c good now).1.up, .int .i64 (resP p c good now).1.good, .int .i64 (resP p c good now).1.bad, .int .i64 (resP p c good now).1.since], .bool (resP p c good now).2]) ∧ Step (fun _ => False) w w' := by
  have HC := Lib.hid (fun w1 => dclip_calls c w1)
  rw [clipC_id hc] at HC
  obtain ⟨up, pg, pb, ps⟩ := p
  obtain ⟨ce, cw, cr, cf⟩ := c
  obtain ⟨hpg, hpb⟩ := hp
  obtain ⟨_, _, hcr, hcf⟩ := hc
  simp only at hpg hpb hcr hcf HC ⊢

  cases good with
  | true =>
    cases up with
    | false =>
      by_cases hr : cr ≤ pg + 1
      · have hge : (pg ≥ cr - 1) := by omega
        have e0 : resP ⟨false, pg, pb, ps⟩ ⟨ce, cw, cr, cf⟩ true now = (⟨true, 0, 0, now⟩, true) := by unfold resP; simp only; rw [if_pos hr]
        rw [e0]
        simp only
        clear e0
        go_enter Try.func74, Try.ntmps74
        go_upto_region 1 with (fail)
        refine alloc_next3 (cs := [.bool false, .int .i64 pg, .int .i64 pb, .int .i64 ps]) (ds := [.int .i64 ce, .int .i64 cw, .int .i64 cr, .int .i64 cf]) (es := [.bool false, .int .i64 0, .int .i64 0, .int .i64 0]) ?_
        intro w1 hP hC hZ hs1 hz1
        generalize hwb : w.heap.size = wb at *
        have HWB := Lib.hid hwb
        clear hwb
        have c0 := hC.cell (i := 0) rfl
        have c1 := hC.cell (i := 1) rfl
        have c2 := hC.cell (i := 2) rfl
        have c3 := hC.cell (i := 3) rfl
        go_upto_region 2 with (go_at_call 41; refine (HC.out _).mono ?_; rintro e w2 ⟨rfl, hs2⟩)
        refine alloc_next (cs := [.int .i64 ce, .int .i64 cw, .int .i64 cr, .int .i64 cf]) ?_
        intro w3 hK hs3
        have hP3 := (hP.keep hs2 (fun h => h)).keep hs3 (fun h => h)
        have hZ3 := (hZ.keep hs2 (fun h => h)).keep hs3 (fun h => h)
        have hz2 := hs2.size
        have hst3 : Step (fun k => wb ≤ k) w w3 := (((hs1.same hs2).same hs3).mono (fun _ _ h => h.elim))
        generalize hkb : w2.heap.size = kb at *
        have HKB := Lib.hid hkb
        clear hkb c0 c1 c2 c3 hs2 hs3 hP hC hZ
        have k2 := hK.cell (i := 2) rfl
        have k3 := hK.cell (i := 3) rfl
        have p03 := hP3.cell (i := 0) rfl
        have f03 := hP3.free 0
        have p13 := hP3.cell (i := 1) rfl
        have f13 := hP3.free 1
        have p23 := hP3.cell (i := 2) rfl
        have f23 := hP3.free 2
        have p33 := hP3.cell (i := 3) rfl
        have f33 := hP3.free 3
        go_upto_region 4 with (fail)
        refine put_plain hP3 ?_
        intro w4 hP4 hs4
        have hK4 := hK.keep hs4 (fun e => by omega)
        have hZ4 := hZ3.keep hs4 (fun e => by omega)
        have hst4 : Step (fun k => wb ≤ k) w w4 := hst3.same (hs4.mono (fun k _ e => by rw [show k = wb from e]; omega))
        clear p03 f03 p13 f13 p23 f23 p33 f33 k2 k3 hK hZ3 hst3
        have k2 := hK4.cell (i := 2) rfl
        have k3 := hK4.cell (i := 3) rfl
        have p04 := hP4.cell (i := 0) rfl
        have f04 := hP4.free 0
        have p14 := hP4.cell (i := 1) rfl
        have f14 := hP4.free 1
        have p24 := hP4.cell (i := 2) rfl
        have f24 := hP4.free 2
        have p34 := hP4.cell (i := 3) rfl
        have f34 := hP4.free 3
        go_wp2_with (refine wpList_store_blk rfl 105 (.tmp 8) (.tmp 25) rfl hZ4 rfl (vs := [.bool true, .int .i64 0, .int .i64 0, .int .i64 now]) rfl (by kernel_rfl) rfl (cell4 _ _ _ _) ?_; intro w9 hZ10 hs9)
        try simp only [Exit.inBlock, Exit.then]
        have hst9 : Step (fun k => wb ≤ k) w w9 := hst4.same (hs9.mono (fun k _ e => by rw [show k = wb + 1 + 1 from e]; omega))
        rw [← HWB.out] at hst9
        exact post_cell_tmp (cs := [.bool true, .int .i64 0, .int .i64 0, .int .i64 now]) rfl rfl hZ10 Try.underlying105 rfl (by kernel_rfl) rfl rfl ⟨rfl, step_fresh hst9⟩
      · have hge : ¬ (pg ≥ cr - 1) := by omega
        have hge2 : ¬ (pg + 1 ≥ cr) := by omega
        have hmx : (if (0 : Int) < pg then pg else 0) = pg := by split <;> omega
        have hmx2 : max 0 pg = pg := by omega
        have e0 : resP ⟨false, pg, pb, ps⟩ ⟨ce, cw, cr, cf⟩ true now = (⟨false, pg + 1, 0, ps⟩, false) := by unfold resP; simp only; rw [if_neg hr]
        rw [e0]
        simp only
        clear e0
        go_enter Try.func74, Try.ntmps74
        go_upto_region 1 with (fail)
        refine alloc_next3 (cs := [.bool false, .int .i64 pg, .int .i64 pb, .int .i64 ps]) (ds := [.int .i64 ce, .int .i64 cw, .int .i64 cr, .int .i64 cf]) (es := [.bool false, .int .i64 0, .int .i64 0, .int .i64 0]) ?_
        intro w1 hP hC hZ hs1 hz1
        generalize hwb : w.heap.size = wb at *
        have HWB := Lib.hid hwb
        clear hwb
        have c0 := hC.cell (i := 0) rfl
        have c1 := hC.cell (i := 1) rfl
        have c2 := hC.cell (i := 2) rfl
        have c3 := hC.cell (i := 3) rfl
        go_upto_region 2 with (go_at_call 41; refine (HC.out _).mono ?_; rintro e w2 ⟨rfl, hs2⟩)
        refine alloc_next (cs := [.int .i64 ce, .int .i64 cw, .int .i64 cr, .int .i64 cf]) ?_
        intro w3 hK hs3
        have hP3 := (hP.keep hs2 (fun h => h)).keep hs3 (fun h => h)
        have hZ3 := (hZ.keep hs2 (fun h => h)).keep hs3 (fun h => h)
        have hz2 := hs2.size
        have hst3 : Step (fun k => wb ≤ k) w w3 := (((hs1.same hs2).same hs3).mono (fun _ _ h => h.elim))
        generalize hkb : w2.heap.size = kb at *
        have HKB := Lib.hid hkb
        clear hkb c0 c1 c2 c3 hs2 hs3 hP hC hZ
        have k2 := hK.cell (i := 2) rfl
        have k3 := hK.cell (i := 3) rfl
        have p03 := hP3.cell (i := 0) rfl
        have f03 := hP3.free 0
        have p13 := hP3.cell (i := 1) rfl
        have f13 := hP3.free 1
        have p23 := hP3.cell (i := 2) rfl
        have f23 := hP3.free 2
        have p33 := hP3.cell (i := 3) rfl
        have f33 := hP3.free 3
        go_upto_region 4 with (fail)
        refine put_plain hP3 ?_
        intro w4 hP4 hs4
        have hK4 := hK.keep hs4 (fun e => by omega)
        have hZ4 := hZ3.keep hs4 (fun e => by omega)
        have hst4 : Step (fun k => wb ≤ k) w w4 := hst3.same (hs4.mono (fun k _ e => by rw [show k = wb from e]; omega))
        clear p03 f03 p13 f13 p23 f23 p33 f33 k2 k3 hK hZ3 hst3
        have k2 := hK4.cell (i := 2) rfl
        have k3 := hK4.cell (i := 3) rfl
        have p04 := hP4.cell (i := 0) rfl
        have f04 := hP4.free 0
        have p14 := hP4.cell (i := 1) rfl
        have f14 := hP4.free 1
        have p24 := hP4.cell (i := 2) rfl
        have f24 := hP4.free 2
        have p34 := hP4.cell (i := 3) rfl
        have f34 := hP4.free 3
        go_upto_region 9 with (fail)
        refine put_plain hP4 ?_
        intro w5 hP5 hs5
        have hK5 := hK4.keep hs5 (fun e => by omega)
        have hZ5 := hZ4.keep hs5 (fun e => by omega)
        have hst5 : Step (fun k => wb ≤ k) w w5 := hst4.same (hs5.mono (fun k _ e => by rw [show k = wb from e]; omega))
        clear p04 f04 p14 f14 p24 f24 p34 f34 k2 k3 hK4 hZ4 hst4
        have k2 := hK5.cell (i := 2) rfl
        have k3 := hK5.cell (i := 3) rfl
        have p05 := hP5.cell (i := 0) rfl
        have f05 := hP5.free 0
        have p15 := hP5.cell (i := 1) rfl
        have f15 := hP5.free 1
        have p25 := hP5.cell (i := 2) rfl
        have f25 := hP5.free 2
        have p35 := hP5.cell (i := 3) rfl
        have f35 := hP5.free 3
        go_wp2_with (refine wpList_store_blk rfl 105 (.tmp 8) (.tmp 38) rfl hZ5 rfl (vs := [.bool false, .int .i64 (pg + 1), .int .i64 0, .int .i64 ps]) rfl (by kernel_rfl) rfl (cell4 _ _ _ _) ?_; intro w9 hZ10 hs9)
        try simp only [Exit.inBlock, Exit.then]
        have hst9 : Step (fun k => wb ≤ k) w w9 := hst5.same (hs9.mono (fun k _ e => by rw [show k = wb + 1 + 1 from e]; omega))
        rw [← HWB.out] at hst9
        exact post_cell_tmp (cs := [.bool false, .int .i64 (pg + 1), .int .i64 0, .int .i64 ps]) rfl rfl hZ10 Try.underlying105 rfl (by kernel_rfl) rfl rfl ⟨rfl, step_fresh hst9⟩
    | true =>
      have e0 : resP ⟨true, pg, pb, ps⟩ ⟨ce, cw, cr, cf⟩ true now = (⟨true, pg, 0, ps⟩, false) := by unfold resP; simp only
      rw [e0]
      simp only
      clear e0
      go_enter Try.func74, Try.ntmps74
      go_upto_region 1 with (fail)
      refine alloc_next3 (cs := [.bool true, .int .i64 pg, .int .i64 pb, .int .i64 ps]) (ds := [.int .i64 ce, .int .i64 cw, .int .i64 cr, .int .i64 cf]) (es := [.bool false, .int .i64 0, .int .i64 0, .int .i64 0]) ?_
      intro w1 hP hC hZ hs1 hz1
      generalize hwb : w.heap.size = wb at *
      have HWB := Lib.hid hwb
      clear hwb
      have c0 := hC.cell (i := 0) rfl
      have c1 := hC.cell (i := 1) rfl
      have c2 := hC.cell (i := 2) rfl
      have c3 := hC.cell (i := 3) rfl
      go_upto_region 2 with (go_at_call 41; refine (HC.out _).mono ?_; rintro e w2 ⟨rfl, hs2⟩)
      refine alloc_next (cs := [.int .i64 ce, .int .i64 cw, .int .i64 cr, .int .i64 cf]) ?_
      intro w3 hK hs3
      have hP3 := (hP.keep hs2 (fun h => h)).keep hs3 (fun h => h)
      have hZ3 := (hZ.keep hs2 (fun h => h)).keep hs3 (fun h => h)
      have hz2 := hs2.size
      have hst3 : Step (fun k => wb ≤ k) w w3 := (((hs1.same hs2).same hs3).mono (fun _ _ h => h.elim))
      generalize hkb : w2.heap.size = kb at *
      have HKB := Lib.hid hkb
      clear hkb c0 c1 c2 c3 hs2 hs3 hP hC hZ
      have k2 := hK.cell (i := 2) rfl
      have k3 := hK.cell (i := 3) rfl
      have p03 := hP3.cell (i := 0) rfl
      have f03 := hP3.free 0
      have p13 := hP3.cell (i := 1) rfl
      have f13 := hP3.free 1
      have p23 := hP3.cell (i := 2) rfl
      have f23 := hP3.free 2
      have p33 := hP3.cell (i := 3) rfl
      have f33 := hP3.free 3
      go_upto_region 4 with (fail)
      refine put_plain hP3 ?_
      intro w4 hP4 hs4
      have hK4 := hK.keep hs4 (fun e => by omega)
      have hZ4 := hZ3.keep hs4 (fun e => by omega)
      have hst4 : Step (fun k => wb ≤ k) w w4 := hst3.same (hs4.mono (fun k _ e => by rw [show k = wb from e]; omega))
      clear p03 f03 p13 f13 p23 f23 p33 f33 k2 k3 hK hZ3 hst3
      have k2 := hK4.cell (i := 2) rfl
      have k3 := hK4.cell (i := 3) rfl
      have p04 := hP4.cell (i := 0) rfl
      have f04 := hP4.free 0
      have p14 := hP4.cell (i := 1) rfl
      have f14 := hP4.free 1
      have p24 := hP4.cell (i := 2) rfl
      have f24 := hP4.free 2
      have p34 := hP4.cell (i := 3) rfl
      have f34 := hP4.free 3
      go_wp2_with (refine wpList_store_blk rfl 105 (.tmp 8) (.tmp 17) rfl hZ4 rfl (vs := [.bool true, .int .i64 pg, .int .i64 0, .int .i64 ps]) rfl (by kernel_rfl) rfl (cell4 _ _ _ _) ?_; intro w9 hZ10 hs9)
      try simp only [Exit.inBlock, Exit.then]
      have hst9 : Step (fun k => wb ≤ k) w w9 := hst4.same (hs9.mono (fun k _ e => by rw [show k = wb + 1 + 1 from e]; omega))
      rw [← HWB.out] at hst9
      exact post_cell_tmp (cs := [.bool true, .int .i64 pg, .int .i64 0, .int .i64 ps]) rfl rfl hZ10 Try.underlying105 rfl (by kernel_rfl) rfl rfl ⟨rfl, step_fresh hst9⟩
  | false =>
    cases up with
    | false =>
      have e0 : resP ⟨false, pg, pb, ps⟩ ⟨ce, cw, cr, cf⟩ false now = (⟨false, 0, pb, ps⟩, false) := by unfold resP; simp only
      rw [e0]
      simp only
      clear e0
      go_enter Try.func74, Try.ntmps74
      go_upto_region 1 with (fail)
      refine alloc_next3 (cs := [.bool false, .int .i64 pg, .int .i64 pb, .int .i64 ps]) (ds := [.int .i64 ce, .int .i64 cw, .int .i64 cr, .int .i64 cf]) (es := [.bool false, .int .i64 0, .int .i64 0, .int .i64 0]) ?_
      intro w1 hP hC hZ hs1 hz1
      generalize hwb : w.heap.size = wb at *
      have HWB := Lib.hid hwb
      clear hwb
      have c0 := hC.cell (i := 0) rfl
      have c1 := hC.cell (i := 1) rfl
      have c2 := hC.cell (i := 2) rfl
      have c3 := hC.cell (i := 3) rfl
      go_upto_region 2 with (go_at_call 41; refine (HC.out _).mono ?_; rintro e w2 ⟨rfl, hs2⟩)
      refine alloc_next (cs := [.int .i64 ce, .int .i64 cw, .int .i64 cr, .int .i64 cf]) ?_
      intro w3 hK hs3
      have hP3 := (hP.keep hs2 (fun h => h)).keep hs3 (fun h => h)
      have hZ3 := (hZ.keep hs2 (fun h => h)).keep hs3 (fun h => h)
      have hz2 := hs2.size
      have hst3 : Step (fun k => wb ≤ k) w w3 := (((hs1.same hs2).same hs3).mono (fun _ _ h => h.elim))
      generalize hkb : w2.heap.size = kb at *
      have HKB := Lib.hid hkb
      clear hkb c0 c1 c2 c3 hs2 hs3 hP hC hZ
      have k2 := hK.cell (i := 2) rfl
      have k3 := hK.cell (i := 3) rfl
      have p03 := hP3.cell (i := 0) rfl
      have f03 := hP3.free 0
      have p13 := hP3.cell (i := 1) rfl
      have f13 := hP3.free 1
      have p23 := hP3.cell (i := 2) rfl
      have f23 := hP3.free 2
      have p33 := hP3.cell (i := 3) rfl
      have f33 := hP3.free 3
      go_upto_region 13 with (fail)
      refine put_plain hP3 ?_
      intro w4 hP4 hs4
      have hK4 := hK.keep hs4 (fun e => by omega)
      have hZ4 := hZ3.keep hs4 (fun e => by omega)
      have hst4 : Step (fun k => wb ≤ k) w w4 := hst3.same (hs4.mono (fun k _ e => by rw [show k = wb from e]; omega))
      clear p03 f03 p13 f13 p23 f23 p33 f33 k2 k3 hK hZ3 hst3
      have k2 := hK4.cell (i := 2) rfl
      have k3 := hK4.cell (i := 3) rfl
      have p04 := hP4.cell (i := 0) rfl
      have f04 := hP4.free 0
      have p14 := hP4.cell (i := 1) rfl
      have f14 := hP4.free 1
      have p24 := hP4.cell (i := 2) rfl
      have f24 := hP4.free 2
      have p34 := hP4.cell (i := 3) rfl
      have f34 := hP4.free 3
      go_wp2_with (refine wpList_store_blk rfl 105 (.tmp 8) (.tmp 43) rfl hZ4 rfl (vs := [.bool false, .int .i64 0, .int .i64 pb, .int .i64 ps]) rfl (by kernel_rfl) rfl (cell4 _ _ _ _) ?_; intro w9 hZ10 hs9)
      try simp only [Exit.inBlock, Exit.then]
      have hst9 : Step (fun k => wb ≤ k) w w9 := hst4.same (hs9.mono (fun k _ e => by rw [show k = wb + 1 + 1 from e]; omega))
      rw [← HWB.out] at hst9
      exact post_cell_tmp (cs := [.bool false, .int .i64 0, .int .i64 pb, .int .i64 ps]) rfl rfl hZ10 Try.underlying105 rfl (by kernel_rfl) rfl rfl ⟨rfl, step_fresh hst9⟩
    | true =>
      by_cases hr : cf ≤ pb + 1
      · have hge : (pb ≥ cf - 1) := by omega
        have e0 : resP ⟨true, pg, pb, ps⟩ ⟨ce, cw, cr, cf⟩ false now = (⟨false, 0, 0, now⟩, true) := by unfold resP; simp only; rw [if_pos hr]
        rw [e0]
        simp only
        clear e0
        go_enter Try.func74, Try.ntmps74
        go_upto_region 1 with (fail)
        refine alloc_next3 (cs := [.bool true, .int .i64 pg, .int .i64 pb, .int .i64 ps]) (ds := [.int .i64 ce, .int .i64 cw, .int .i64 cr, .int .i64 cf]) (es := [.bool false, .int .i64 0, .int .i64 0, .int .i64 0]) ?_
        intro w1 hP hC hZ hs1 hz1
        generalize hwb : w.heap.size = wb at *
        have HWB := Lib.hid hwb
        clear hwb
        have c0 := hC.cell (i := 0) rfl
        have c1 := hC.cell (i := 1) rfl
        have c2 := hC.cell (i := 2) rfl
        have c3 := hC.cell (i := 3) rfl
        go_upto_region 2 with (go_at_call 41; refine (HC.out _).mono ?_; rintro e w2 ⟨rfl, hs2⟩)
        refine alloc_next (cs := [.int .i64 ce, .int .i64 cw, .int .i64 cr, .int .i64 cf]) ?_
        intro w3 hK hs3
        have hP3 := (hP.keep hs2 (fun h => h)).keep hs3 (fun h => h)
        have hZ3 := (hZ.keep hs2 (fun h => h)).keep hs3 (fun h => h)
        have hz2 := hs2.size
        have hst3 : Step (fun k => wb ≤ k) w w3 := (((hs1.same hs2).same hs3).mono (fun _ _ h => h.elim))
        generalize hkb : w2.heap.size = kb at *
        have HKB := Lib.hid hkb
        clear hkb c0 c1 c2 c3 hs2 hs3 hP hC hZ
        have k2 := hK.cell (i := 2) rfl
        have k3 := hK.cell (i := 3) rfl
        have p03 := hP3.cell (i := 0) rfl
        have f03 := hP3.free 0
        have p13 := hP3.cell (i := 1) rfl
        have f13 := hP3.free 1
        have p23 := hP3.cell (i := 2) rfl
        have f23 := hP3.free 2
        have p33 := hP3.cell (i := 3) rfl
        have f33 := hP3.free 3
        go_upto_region 13 with (fail)
        refine put_plain hP3 ?_
        intro w4 hP4 hs4
        have hK4 := hK.keep hs4 (fun e => by omega)
        have hZ4 := hZ3.keep hs4 (fun e => by omega)
        have hst4 : Step (fun k => wb ≤ k) w w4 := hst3.same (hs4.mono (fun k _ e => by rw [show k = wb from e]; omega))
        clear p03 f03 p13 f13 p23 f23 p33 f33 k2 k3 hK hZ3 hst3
        have k2 := hK4.cell (i := 2) rfl
        have k3 := hK4.cell (i := 3) rfl
        have p04 := hP4.cell (i := 0) rfl
        have f04 := hP4.free 0
        have p14 := hP4.cell (i := 1) rfl
        have f14 := hP4.free 1
        have p24 := hP4.cell (i := 2) rfl
        have f24 := hP4.free 2
        have p34 := hP4.cell (i := 3) rfl
        have f34 := hP4.free 3
        go_wp2_with (refine wpList_store_blk rfl 105 (.tmp 8) (.tmp 51) rfl hZ4 rfl (vs := [.bool false, .int .i64 0, .int .i64 0, .int .i64 now]) rfl (by kernel_rfl) rfl (cell4 _ _ _ _) ?_; intro w9 hZ10 hs9)
        try simp only [Exit.inBlock, Exit.then]
        have hst9 : Step (fun k => wb ≤ k) w w9 := hst4.same (hs9.mono (fun k _ e => by rw [show k = wb + 1 + 1 from e]; omega))
        rw [← HWB.out] at hst9
        exact post_cell_tmp (cs := [.bool false, .int .i64 0, .int .i64 0, .int .i64 now]) rfl rfl hZ10 Try.underlying105 rfl (by kernel_rfl) rfl rfl ⟨rfl, step_fresh hst9⟩
      · have hge : ¬ (pb ≥ cf - 1) := by omega
        have hge2 : ¬ (pb + 1 ≥ cf) := by omega
        have hmx : (if (0 : Int) < pb then pb else 0) = pb := by split <;> omega
        have hmx2 : max 0 pb = pb := by omega
        have e0 : resP ⟨true, pg, pb, ps⟩ ⟨ce, cw, cr, cf⟩ false now = (⟨true, 0, pb + 1, ps⟩, false) := by unfold resP; simp only; rw [if_neg hr]
        rw [e0]
        simp only
        clear e0
        go_enter Try.func74, Try.ntmps74
        go_upto_region 1 with (fail)
        refine alloc_next3 (cs := [.bool true, .int .i64 pg, .int .i64 pb, .int .i64 ps]) (ds := [.int .i64 ce, .int .i64 cw, .int .i64 cr, .int .i64 cf]) (es := [.bool false, .int .i64 0, .int .i64 0, .int .i64 0]) ?_
        intro w1 hP hC hZ hs1 hz1
        generalize hwb : w.heap.size = wb at *
        have HWB := Lib.hid hwb
        clear hwb
        have c0 := hC.cell (i := 0) rfl
        have c1 := hC.cell (i := 1) rfl
        have c2 := hC.cell (i := 2) rfl
        have c3 := hC.cell (i := 3) rfl
        go_upto_region 2 with (go_at_call 41; refine (HC.out _).mono ?_; rintro e w2 ⟨rfl, hs2⟩)
        refine alloc_next (cs := [.int .i64 ce, .int .i64 cw, .int .i64 cr, .int .i64 cf]) ?_
        intro w3 hK hs3
        have hP3 := (hP.keep hs2 (fun h => h)).keep hs3 (fun h => h)
        have hZ3 := (hZ.keep hs2 (fun h => h)).keep hs3 (fun h => h)
        have hz2 := hs2.size
        have hst3 : Step (fun k => wb ≤ k) w w3 := (((hs1.same hs2).same hs3).mono (fun _ _ h => h.elim))
        generalize hkb : w2.heap.size = kb at *
        have HKB := Lib.hid hkb
        clear hkb c0 c1 c2 c3 hs2 hs3 hP hC hZ
        have k2 := hK.cell (i := 2) rfl
        have k3 := hK.cell (i := 3) rfl
        have p03 := hP3.cell (i := 0) rfl
        have f03 := hP3.free 0
        have p13 := hP3.cell (i := 1) rfl
        have f13 := hP3.free 1
        have p23 := hP3.cell (i := 2) rfl
        have f23 := hP3.free 2
        have p33 := hP3.cell (i := 3) rfl
        have f33 := hP3.free 3
        go_upto_region 13 with (fail)
        refine put_plain hP3 ?_
        intro w4 hP4 hs4
        have hK4 := hK.keep hs4 (fun e => by omega)
        have hZ4 := hZ3.keep hs4 (fun e => by omega)
        have hst4 : Step (fun k => wb ≤ k) w w4 := hst3.same (hs4.mono (fun k _ e => by rw [show k = wb from e]; omega))
        clear p03 f03 p13 f13 p23 f23 p33 f33 k2 k3 hK hZ3 hst3
        have k2 := hK4.cell (i := 2) rfl
        have k3 := hK4.cell (i := 3) rfl
        have p04 := hP4.cell (i := 0) rfl
        have f04 := hP4.free 0
        have p14 := hP4.cell (i := 1) rfl
        have f14 := hP4.free 1
        have p24 := hP4.cell (i := 2) rfl
        have f24 := hP4.free 2
        have p34 := hP4.cell (i := 3) rfl
        have f34 := hP4.free 3
        go_upto_region 18 with (fail)
        refine put_plain hP4 ?_
        intro w5 hP5 hs5
        have hK5 := hK4.keep hs5 (fun e => by omega)
        have hZ5 := hZ4.keep hs5 (fun e => by omega)
        have hst5 : Step (fun k => wb ≤ k) w w5 := hst4.same (hs5.mono (fun k _ e => by rw [show k = wb from e]; omega))
        clear p04 f04 p14 f14 p24 f24 p34 f34 k2 k3 hK4 hZ4 hst4
        have k2 := hK5.cell (i := 2) rfl
        have k3 := hK5.cell (i := 3) rfl
        have p05 := hP5.cell (i := 0) rfl
        have f05 := hP5.free 0
        have p15 := hP5.cell (i := 1) rfl
        have f15 := hP5.free 1
        have p25 := hP5.cell (i := 2) rfl
        have f25 := hP5.free 2
        have p35 := hP5.cell (i := 3) rfl
        have f35 := hP5.free 3
        go_wp2_with (refine wpList_store_blk rfl 105 (.tmp 8) (.tmp 64) rfl hZ5 rfl (vs := [.bool true, .int .i64 0, .int .i64 (pb + 1), .int .i64 ps]) rfl (by kernel_rfl) rfl (cell4 _ _ _ _) ?_; intro w9 hZ10 hs9)
        try simp only [Exit.inBlock, Exit.then]
        have hst9 : Step (fun k => wb ≤ k) w w9 := hst5.same (hs9.mono (fun k _ e => by rw [show k = wb + 1 + 1 from e]; omega))
        rw [← HWB.out] at hst9
        exact post_cell_tmp (cs := [.bool true, .int .i64 0, .int .i64 (pb + 1), .int .i64 ps]) rfl rfl hZ10 Try.underlying105 rfl (by kernel_rfl) rfl rfl ⟨rfl, step_fresh hst9⟩
end Go.Proofs.Ytghiklaeenhljaa.HeD
