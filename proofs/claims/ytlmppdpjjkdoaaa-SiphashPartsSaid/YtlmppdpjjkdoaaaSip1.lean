/- siphash: a round, a word taken in. Own work of this seat. -/
import Derived.Test.YtlmppdpjjkdoaaaKit
import Derived.Test.YtlmppdpjjkdoaaaPSiphashSumsx1
import Derived.StillTailTactics
import Derived.Outline
import Derived.Deep.Cut
namespace Go.Proofs.Ytlmppdpjjkdoaaa.Sip
open Go.RowKit Go.Proofs.Ytlmppdpjjkdoaaa.Kit Go.Proofs.Ytlmppdpjjkdoaaa.PSiphashSums Go.Proofs.YtlmppdpjjkdoaaaW.PrintWords Go.Proofs.YtlmppdpjjkdoaaaW.PrintLast Go.Proofs.YtlmppdpjjkdoaaaW.PrintMore
set_option linter.unusedVariables false

structure W4 where
  a : Int
  b : Int
  c : Int
  d : Int

def xor (x y : Int) : Int := Go.bits .xor .u64 x y
def add (x y : Int) : Int := IntKind.u64.wrap (x + y)
def rot (x n : Int) : Int := Go.bits .or .u64 (shl .u64 x n) (shr .u64 x (64 - n))

def rnd (s : W4) : W4 :=
  let a := add s.a s.b
  let b := xor (rot s.b 13) a
  let a := rot a 32
  let c := add s.c s.d
  let d := xor (rot s.d 16) c
  let a := add a d
  let d := xor (rot d 21) a
  let c := add c b
  let b := xor (rot b 17) c
  let c := rot c 32
  ⟨a, b, c, d⟩

def cells6 (s : W4) (v : Value) (n : Int) : List Value := [.int .u64 s.a, .int .u64 s.b, .int .u64 s.c, .int .u64 s.d, v, .int .i64 n]

theorem blk6 {w : World} {b : Nat} {T : TypeId} {u0 u1 u2 u3 u4 u5 : Value} (h : Blk w b T [u0, u1, u2, u3, u4, u5]) :
    (w.cell? ⟨b, 0, none⟩ = some u0 ∧ w.cell? ⟨b, 1, none⟩ = some u1 ∧ w.cell? ⟨b, 2, none⟩ = some u2 ∧ w.cell? ⟨b, 3, none⟩ = some u3 ∧ w.cell? ⟨b, 4, none⟩ = some u4 ∧ w.cell? ⟨b, 5, none⟩ = some u5) ∧
    (w.frozen? ⟨b, 0, none⟩ = false ∧ w.frozen? ⟨b, 1, none⟩ = false ∧ w.frozen? ⟨b, 2, none⟩ = false ∧ w.frozen? ⟨b, 3, none⟩ = false ∧ w.frozen? ⟨b, 4, none⟩ = false ∧ w.frozen? ⟨b, 5, none⟩ = false) :=
  ⟨⟨h.cell rfl, h.cell rfl, h.cell rfl, h.cell rfl, h.cell rfl, h.cell rfl⟩, ⟨h.free 0, h.free 1, h.free 2, h.free 3, h.free 4, h.free 5⟩⟩

set_option maxRecDepth 100000 in
theorem rot_calls (x n : Int) (w : World) (hn : n = 13 ∨ n = 16 ∨ n = 17 ∨ n = 21 ∨ n = 32) :
    Calls Try.prog 79 #[.int .u64 x, .int .i64 n] w fun e w' => e = .returned (.int .u64 (rot x n)) ∧ w' = w := by
  have k1 : bits .and .u64 13 63 = 13 := by decide +kernel
  have k2 : bits .and .u64 16 63 = 16 := by decide +kernel
  have k3 : bits .and .u64 17 63 = 17 := by decide +kernel
  have k4 : bits .and .u64 21 63 = 21 := by decide +kernel
  have k5 : bits .and .u64 32 63 = 32 := by decide +kernel
  rcases hn with rfl | rfl | rfl | rfl | rfl <;>
  (go_enter Try.func79, Try.ntmps79
   go_wp2
   go_ret
   exact ⟨rfl, rfl⟩)

set_option maxRecDepth 100000 in
set_option maxHeartbeats 2000000 in
theorem round_calls (b : Nat) (T : TypeId) (s : W4) (v : Value) (n : Int) (w : World) (hB : Blk w b T (cells6 s v n)) :
    Calls Try.prog 76 #[.pointer (some ⟨b, 0, none⟩)] w fun e w' => e = .returned (.tuple #[]) ∧ Blk w' b T (cells6 (rnd s) v n) ∧ Step (· = b) w w' := by
  obtain ⟨A, B, C, D⟩ := s
  unfold cells6 at hB
  have hB0 := hB
  have hS0 := Step.refl (· = b) w
  obtain ⟨⟨c0, c1, c2, c3, c4, c5⟩, ⟨f0, f1, f2, f3, f4, f5⟩⟩ := blk6 hB0
  go_enter Try.func76, Try.ntmps76
  go_wp2
  go_still_tail 11, (by kernel_rfl)
  go_wp2
  refine put_drew hB0 ?_
  intro w1 hB1 hs1
  clear c0 c1 c2 c3 c4 c5 f0 f1 f2 f3 f4 f5
  have hS1 := hS0.same hs1
  obtain ⟨⟨c0, c1, c2, c3, c4, c5⟩, ⟨f0, f1, f2, f3, f4, f5⟩⟩ := blk6 hB1
  go_still_tail 13, (by kernel_rfl)
  still_call (rot_calls _ _ _ (by simp))
  repeat still_step
  refine wpStill_nil ?_
  go_upto_region 2 with (fail)
  refine put_drew hB1 ?_
  intro w2 hB2 hs2
  clear c0 c1 c2 c3 c4 c5 f0 f1 f2 f3 f4 f5
  have hS2 := hS1.same hs2
  obtain ⟨⟨c0, c1, c2, c3, c4, c5⟩, ⟨f0, f1, f2, f3, f4, f5⟩⟩ := blk6 hB2
  go_wp2_with (go_at_call 79; refine (rot_calls _ _ _ (by simp)).mono ?_; rintro e w' ⟨rfl, rfl⟩)
  refine put_plain hB2 ?_
  intro w3 hB3 hs3
  clear c0 c1 c2 c3 c4 c5 f0 f1 f2 f3 f4 f5
  have hS3 := hS2.same hs3
  obtain ⟨⟨c0, c1, c2, c3, c4, c5⟩, ⟨f0, f1, f2, f3, f4, f5⟩⟩ := blk6 hB3
  go_still_tail 11, (by kernel_rfl)
  go_wp2
  refine put_drew hB3 ?_
  intro w4 hB4 hs4
  clear c0 c1 c2 c3 c4 c5 f0 f1 f2 f3 f4 f5
  have hS4 := hS3.same hs4
  obtain ⟨⟨c0, c1, c2, c3, c4, c5⟩, ⟨f0, f1, f2, f3, f4, f5⟩⟩ := blk6 hB4
  go_still_tail 13, (by kernel_rfl)
  still_call (rot_calls _ _ _ (by simp))
  repeat still_step
  refine wpStill_nil ?_
  go_upto_region 5 with (fail)
  refine put_drew hB4 ?_
  intro w5 hB5 hs5
  clear c0 c1 c2 c3 c4 c5 f0 f1 f2 f3 f4 f5
  have hS5 := hS4.same hs5
  obtain ⟨⟨c0, c1, c2, c3, c4, c5⟩, ⟨f0, f1, f2, f3, f4, f5⟩⟩ := blk6 hB5
  go_still_tail 11, (by kernel_rfl)
  go_wp2
  refine put_drew hB5 ?_
  intro w6 hB6 hs6
  clear c0 c1 c2 c3 c4 c5 f0 f1 f2 f3 f4 f5
  have hS6 := hS5.same hs6
  obtain ⟨⟨c0, c1, c2, c3, c4, c5⟩, ⟨f0, f1, f2, f3, f4, f5⟩⟩ := blk6 hB6
  go_still_tail 13, (by kernel_rfl)
  still_call (rot_calls _ _ _ (by simp))
  repeat still_step
  refine wpStill_nil ?_
  go_upto_region 7 with (fail)
  refine put_drew hB6 ?_
  intro w7 hB7 hs7
  clear c0 c1 c2 c3 c4 c5 f0 f1 f2 f3 f4 f5
  have hS7 := hS6.same hs7
  obtain ⟨⟨c0, c1, c2, c3, c4, c5⟩, ⟨f0, f1, f2, f3, f4, f5⟩⟩ := blk6 hB7
  go_still_tail 11, (by kernel_rfl)
  go_wp2
  refine put_drew hB7 ?_
  intro w8 hB8 hs8
  clear c0 c1 c2 c3 c4 c5 f0 f1 f2 f3 f4 f5
  have hS8 := hS7.same hs8
  obtain ⟨⟨c0, c1, c2, c3, c4, c5⟩, ⟨f0, f1, f2, f3, f4, f5⟩⟩ := blk6 hB8
  go_still_tail 13, (by kernel_rfl)
  still_call (rot_calls _ _ _ (by simp))
  repeat still_step
  refine wpStill_nil ?_
  go_upto_region 9 with (fail)
  refine put_drew hB8 ?_
  intro w9 hB9 hs9
  clear c0 c1 c2 c3 c4 c5 f0 f1 f2 f3 f4 f5
  have hS9 := hS8.same hs9
  obtain ⟨⟨c0, c1, c2, c3, c4, c5⟩, ⟨f0, f1, f2, f3, f4, f5⟩⟩ := blk6 hB9
  go_wp2_with (go_at_call 79; refine (rot_calls _ _ _ (by simp)).mono ?_; rintro e w' ⟨rfl, rfl⟩)
  go_end0
  exact ⟨rfl, hB9.set 2 _, hS9.setCell (p := ⟨b, 2, none⟩) (fun _ => rfl) _⟩
end Go.Proofs.Ytlmppdpjjkdoaaa.Sip
