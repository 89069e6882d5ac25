/- siphash: a word taken in. Own work of this seat. -/
import Derived.Test.YtlmppdpjjkdoaaaSip1
import Derived.LoopTactic
namespace Go.Proofs.Ytlmppdpjjkdoaaa.Sip
open Go.RowKit Go.Proofs.Ytlmppdpjjkdoaaa.Kit Go.Proofs.YtlmppdpjjkdoaaaW.PrintWords Go.Proofs.YtlmppdpjjkdoaaaW.PrintLast Go.Proofs.YtlmppdpjjkdoaaaW.PrintMore
set_option linter.unusedVariables false

def rndN : Nat → W4 → W4
  | 0, s => s
  | k + 1, s => rnd (rndN k s)

def takeW (s : W4) (m : Int) : W4 :=
  let t := rndN 2 ⟨s.a, s.b, s.c, xor s.d m⟩
  ⟨xor t.a m, t.b, t.c, t.d⟩

theorem takeW_eq {s t : W4} {m : Int} (h : rndN 2 ⟨s.a, s.b, s.c, xor s.d m⟩ = t) : takeW s m = ⟨xor t.a m, t.b, t.c, t.d⟩ := by subst h; rfl

set_option maxRecDepth 100000 in
set_option maxHeartbeats 2000000 in
theorem take_calls (b : Nat) (T : TypeId) (s : W4) (v : Value) (n m : Int) (w : World) (hB : Blk w b T (cells6 s v n)) :
    Calls Try.prog 75 #[.pointer (some ⟨b, 0, none⟩), .int .u64 m] w fun e w' => e = .returned (.tuple #[]) ∧ Blk w' b T (cells6 (takeW s m) v n) ∧ Step (· = b) w w' := by
  obtain ⟨t, ht⟩ : ∃ t, rndN 2 ⟨s.a, s.b, s.c, xor s.d m⟩ = t := ⟨_, rfl⟩
  rw [takeW_eq ht]
  have ht := Lib.hid ht
  have hB0 := hB
  unfold cells6 at hB0
  obtain ⟨⟨c0, c1, c2, c3, c4, c5⟩, ⟨f0, f1, f2, f3, f4, f5⟩⟩ := blk6 hB0
  go_enter Try.func75, Try.ntmps75
  go_upto_region 1 with (fail)
  refine put_plain hB0 ?_
  intro w1 hB1 hs1
  clear c0 c1 c2 c3 c4 c5 f0 f1 f2 f3 f4 f5
  go_wp2_with fail
  go_loopw [12] (fun i wr => ∃ k : Nat, k ≤ 2 ∧ i = .int .i64 k ∧ Blk wr b T (cells6 (rndN k ⟨s.a, s.b, s.c, xor s.d m⟩) v n) ∧ Step (· = b) w wr) (fun i _ => 2 - (intOf i).toNat)
  case atStart => exact ⟨0, by omega, rfl, hB1, hs1⟩
  case round =>
    obtain ⟨k, hk, rfl, hBk, hSk⟩ := hrel
    by_cases hlt : k < 2
    · go_wp2_with (go_at_call 76; refine (round_calls b T _ v n _ hBk).mono ?_; rintro e w' ⟨rfl, hB', hS'⟩)
      go_roundw
      case rel => exact ⟨k + 1, by omega, by go_num, hB', hSk.same hS'⟩
      case measure => simp [intOf]; omega
    · obtain rfl : k = 2 := by omega
      rw [ht.out] at hBk
      have hBk' := hBk
      unfold cells6 at hBk'
      obtain ⟨⟨c0, c1, c2, c3, c4, c5⟩, ⟨f0, f1, f2, f3, f4, f5⟩⟩ := blk6 hBk'
      go_wp2
      go_end0
      exact ⟨rfl, hBk'.set 0 _, hSk.setCell (p := ⟨b, 0, none⟩) (fun _ => rfl) _⟩
end Go.Proofs.Ytlmppdpjjkdoaaa.Sip
