/- siphash: the reference's turn, round, take. Own work of this seat. -/
import Derived.Test.YtlmppdpjjkdoaaaSip5
import Derived.Laws.ResultCell
namespace Go.Proofs.Ytlmppdpjjkdoaaa.Sip
open Go.RowKit Go.Proofs.Ytlmppdpjjkdoaaa.Kit Go.Proofs.Ytlmppdpjjkdoaaa.PSiphashSums Go.Proofs.YtlmppdpjjkdoaaaW.PrintWords Go.Proofs.YtlmppdpjjkdoaaaW.PrintLast Go.Proofs.YtlmppdpjjkdoaaaW.PrintMore
set_option linter.unusedVariables false

def cells4 (s : W4) : List Value := [.int .u64 s.a, .int .u64 s.b, .int .u64 s.c, .int .u64 s.d]
theorem blk4 {w : World} {b : Nat} {T : TypeId} {u0 u1 u2 u3 : Value} (h : Blk w b T [u0, u1, u2, u3]) :
    (w.cell? ⟨b, 0, none⟩ = some u0 ∧ w.cell? ⟨b, 1, none⟩ = some u1 ∧ w.cell? ⟨b, 2, none⟩ = some u2 ∧ w.cell? ⟨b, 3, none⟩ = some u3) ∧
    (w.frozen? ⟨b, 0, none⟩ = false ∧ w.frozen? ⟨b, 1, none⟩ = false ∧ w.frozen? ⟨b, 2, none⟩ = false ∧ w.frozen? ⟨b, 3, none⟩ = false) :=
  ⟨⟨h.cell rfl, h.cell rfl, h.cell rfl, h.cell rfl⟩, ⟨h.free 0, h.free 1, h.free 2, h.free 3⟩⟩

theorem blk4_put {w : World} {b : Nat} {T : TypeId} {x0 x1 x2 x3 : Value} (h : Blk w b T [x0, x1, x2, x3]) (u0 u1 u2 u3 : Value) :
    Blk ((((w.setCell ⟨b, 0, none⟩ u0).setCell ⟨b, 1, none⟩ u1).setCell ⟨b, 2, none⟩ u2).setCell ⟨b, 3, none⟩ u3) b T [u0, u1, u2, u3] ∧ Step (· = b) w ((((w.setCell ⟨b, 0, none⟩ u0).setCell ⟨b, 1, none⟩ u1).setCell ⟨b, 2, none⟩ u2).setCell ⟨b, 3, none⟩ u3) :=
  ⟨(((h.set 0 u0).set 1 u1).set 2 u2).set 3 u3, ((((step_put w b 0 u0).same (step_put _ b 1 u1)).same (step_put _ b 2 u2)).same (step_put _ b 3 u3))⟩
theorem put4 {P : Program} {c : Code} {Q : Exit → Act → World → Prop} {a : Act} {w : World} {b : Nat} {T : TypeId} {x0 x1 x2 x3 u0 u1 u2 u3 : Value} (h : Blk w b T [x0, x1, x2, x3])
    (k : ∀ w1, Blk w1 b T [u0, u1, u2, u3] → Step (· = b) w w1 → Code.wp P c Q a w1) : Code.wp P c Q a ((((w.setCell ⟨b, 0, none⟩ u0).setCell ⟨b, 1, none⟩ u1).setCell ⟨b, 2, none⟩ u2).setCell ⟨b, 3, none⟩ u3) :=
  k _ (blk4_put h u0 u1 u2 u3).1 (blk4_put h u0 u1 u2 u3).2

set_option maxRecDepth 100000 in
theorem turn_calls (x n : Int) (w : World) (hn : n = 13 ∨ n = 16 ∨ n = 17 ∨ n = 21 ∨ n = 32) :
    Calls Try.prog 77 #[.int .u64 x, .int .i64 n] w fun e w' => e = .returned (.int .u64 (rot x n)) ∧ ∃ m, w' = w.drewN m := by
  rcases hn with rfl | rfl | rfl | rfl | rfl <;>
  (go_enter Try.func77, Try.ntmps77
   go_wp2
   go_quiet (fail)
   go_wp2
   go_ret
   exact ⟨rfl, _, rfl⟩)

set_option maxRecDepth 100000 in
set_option maxHeartbeats 2000000 in
theorem refround_calls (s : W4) (w : World) :
    Calls Try.prog 69 #[.agg (cells4 s).toArray] w fun e w' => e = .returned (.agg (cells4 (rnd s)).toArray) ∧ Below w.heap.size w w' := by
  obtain ⟨A, B, C, D⟩ := s
  unfold cells4
  go_enter Try.func69, Try.ntmps69
  go_wp2
  refine alloc_next2 ?_
  intro w1 hX hR hs hlt
  obtain ⟨⟨c0, c1, c2, c3⟩, _⟩ := blk4 hX
  go_quiet (fail)
  have hR' := hR.drewN nq
  obtain ⟨⟨d0, d1, d2, d3⟩, ⟨f0, f1, f2, f3⟩⟩ := blk4 hR
  go_wp2_with (go_at_call 77; refine (turn_calls _ _ _ (by simp)).mono ?_; rintro e w' ⟨rfl, m, rfl⟩)
  refine bodyPost_ret (results_cell_row rfl _ _ (w.heap.size + 1) 103 _ (0, 0) _ rfl (((((hR.drewN _).set 0 _).set 1 _).set 2 _).set 3 _) Try.underlying103 rfl (by kernel_rfl)) rfl ?_
  have hout : ∀ {j : Nat}, w.heap.size + 1 < w.heap.size → False := fun h => by omega
  exact ⟨rfl, (((((hs.drewN _).setCell (p := ⟨w.heap.size + 1, 0, none⟩) (hout (j := 0)) _).setCell (p := ⟨w.heap.size + 1, 1, none⟩) (hout (j := 0)) _).setCell (p := ⟨w.heap.size + 1, 2, none⟩) (hout (j := 0)) _).setCell (p := ⟨w.heap.size + 1, 3, none⟩) (hout (j := 0)) _).below (Nat.le_refl _) (fun _ h => h.elim)⟩

theorem agg4 (s : W4) : Value.agg (cells4 s).toArray = .agg #[.int .u64 s.a, .int .u64 s.b, .int .u64 s.c, .int .u64 s.d] := rfl

theorem refround_calls' (s : W4) (w : World) :
    Calls Try.prog 69 #[.agg #[.int .u64 s.a, .int .u64 s.b, .int .u64 s.c, .int .u64 s.d]] w fun e w' => e = .returned (.agg #[.int .u64 (rnd s).a, .int .u64 (rnd s).b, .int .u64 (rnd s).c, .int .u64 (rnd s).d]) ∧ Below w.heap.size w w' :=
  refround_calls s w

set_option maxRecDepth 100000 in
set_option maxHeartbeats 2000000 in
theorem reftake_calls (s : W4) (m : Int) (w : World) :
    Calls Try.prog 68 #[.agg (cells4 s).toArray, .int .u64 m] w fun e w' => e = .returned (.agg (cells4 (takeW s m)).toArray) ∧ Below w.heap.size w w' := by
  obtain ⟨t, ht⟩ : ∃ t, rndN 2 ⟨s.a, s.b, s.c, xor s.d m⟩ = t := ⟨_, rfl⟩
  rw [takeW_eq ht]
  have Ht := Lib.hid ht
  clear ht
  rw [agg4]
  go_enter Try.func68, Try.ntmps68
  go_upto_region 1 with (fail)
  refine alloc_next2 ?_
  intro w1 hX hR hs hlt
  obtain ⟨⟨c0, c1, c2, c3⟩, ⟨f0, f1, f2, f3⟩⟩ := blk4 hX
  go_upto_region 2 with (fail)
  refine put_plain hX ?_
  intro w2 hX2 hs2
  have hR2 := hR.keep hs2 (by omega)
  clear c0 c1 c2 c3 f0 f1 f2 f3 hX
  obtain ⟨⟨c0, c1, c2, c3⟩, ⟨f0, f1, f2, f3⟩⟩ := blk4 hX2
  go_wp2_with fail
  refine (refround_calls' ⟨s.a, s.b, s.c, xor s.d m⟩ _).mono ?_
  rintro e w3 ⟨rfl, hb3⟩
  generalize hr1 : rnd ⟨s.a, s.b, s.c, xor s.d m⟩ = r1
  go_wp2_with fail
  refine (refround_calls' r1 _).mono ?_
  rintro e w4 ⟨rfl, hb4⟩
  have hr2 : rnd r1 = t := by rw [← hr1]; exact Ht.out
  rw [hr2]
  have hX4 := hX2.keep ((Step.of_below (F := fun _ => False) hb3).then_below hb4) (fun h => h)
  have hR4 := hR2.keep ((Step.of_below (F := fun _ => False) hb3).then_below hb4) (fun h => h)
  clear hr1 hr2 c0 c1 c2 c3 f0 f1 f2 f3 hX2
  obtain ⟨⟨c0, c1, c2, c3⟩, ⟨f0, f1, f2, f3⟩⟩ := blk4 hX4
  go_upto_region 3 with (fail)
  refine put4 hX4 ?_
  intro w5 hX5 hs5
  have hR5 := hR4.keep hs5 (by omega)
  clear c0 c1 c2 c3 f0 f1 f2 f3 hX4 hR4
  obtain ⟨⟨c0, c1, c2, c3⟩, ⟨f0, f1, f2, f3⟩⟩ := blk4 hX5
  go_upto_region 4 with (fail)
  refine put_plain hX5 ?_
  intro w6 hX6 hs6
  have hR6 := hR5.keep hs6 (by omega)
  clear c0 c1 c2 c3 f0 f1 f2 f3 hX5 hR5
  obtain ⟨⟨c0, c1, c2, c3⟩, _⟩ := blk4 hX6
  obtain ⟨⟨d0, d1, d2, d3⟩, ⟨f0, f1, f2, f3⟩⟩ := blk4 hR6
  go_wp2
  have hfin := blk4_put hR6 (.int .u64 (xor t.a m)) (.int .u64 t.b) (.int .u64 t.c) (.int .u64 t.d)
  refine bodyPost_ret (results_cell_row rfl _ _ (w.heap.size + 1) 103 _ (0, 0) _ rfl hfin.1 Try.underlying103 rfl (by kernel_rfl)) rfl ?_
  have hF : ∀ {b : Nat}, w.heap.size ≤ b → ∀ k, k = b → w.heap.size ≤ k := fun h k e => by omega
  have hst : Step (fun k => w.heap.size ≤ k) w _ := (((((hs.mono (fun _ _ h => h.elim)).same (hs2.mono (fun k _ e => by omega))).then_below hb3).then_below hb4).same (hs5.mono (fun k _ e => by omega))).same (hs6.mono (fun k _ e => by omega)) |>.same (hfin.2.mono (fun k _ e => by omega))
  exact ⟨rfl, hst.below (Nat.le_refl _) (fun _ h => h)⟩
theorem reftake_calls' (s : W4) (m : Int) (w : World) :
    Calls Try.prog 68 #[.agg #[.int .u64 s.a, .int .u64 s.b, .int .u64 s.c, .int .u64 s.d], .int .u64 m] w fun e w' => e = .returned (.agg #[.int .u64 (takeW s m).a, .int .u64 (takeW s m).b, .int .u64 (takeW s m).c, .int .u64 (takeW s m).d]) ∧ Below w.heap.size w w' :=
  reftake_calls s m w
end Go.Proofs.Ytlmppdpjjkdoaaa.Sip
