/- idle: Take; law 25's awake. Own work of this seat. -/
import Derived.Test.YtgohlbljdffelaaIdlD
namespace Go.Proofs.Ytgohlbljdffelaa.Idl
open Go.RowKit Go.Proofs.Ytgohlbljdffelaa.Kit Go.Proofs.Ytgohlbljdffelaa.AgP Go.Proofs.Ytgohlbljdffelaa.IntS Go.Proofs.Ytgohlbljdffelaa
set_option linter.unusedVariables false
set_option linter.unusedSimpArgs false

theorem seg1_of {w : World} {b : Nat} {l : List Int} (h : Blk w b 3 (ic l)) : ISeg w (some ⟨b, 0, none⟩) l.length l.length l :=
  ⟨by simp [ic], .inr ⟨b, (ic l).toArray, rfl, h, Nat.le_refl _, by simp [ic], fun j v hj => by simpa using hj⟩⟩

def takeL (l : List On) (s : ByteArray) : List On × Int × Bool := match (stackOf l s).getLast? with | none => (l, 0, false) | some c => (dropC l c, c, true)

set_option maxRecDepth 100000 in
set_option maxHeartbeats 1000000 in
theorem take_calls {w : World} {p : Nat} {F : Nat → Prop} {most life : Int} {l : List On} {t : Nat} (h : IdR w p F most life l t) (ht : t ≤ 40000) {s : ByteArray} (hs : s.size ≤ 1000) :
    Calls Try.prog 17 #[.pointer (some ⟨p, 0, none⟩), .string s] w fun e w' => e = .returned (.tuple #[.int .i64 (takeL l s).2.1, .bool (takeL l s).2.2]) ∧ IdR w' p F most life (takeL l s).1 t ∧ Step F w w' := by
  have hll := h.len_le
  have hsl := stack_le l s
  obtain ⟨h1, a, MS, MO, FA, L, ro, n1, n2, m2, fo, fs, hx, hF⟩ := id h
  have c2 := hx.blk.cell (i := 2) rfl
  obtain ⟨A, cA, hlk, hseg, hAro⟩ := nm_look hx.ms hx.fs hx.row s hs
  have hlook := hlk w (Step.refl _ _)
  have hcap := hseg.le
  unfold takeL
  cases hg : (stackOf l s).getLast? with
  | none =>
    have he : stackOf l s = [] := List.getLast?_eq_none_iff.1 hg
    have hlen : (stackOf l s).length = 0 := by rw [he]; rfl
    rw [hlen] at hlook
    simp only
    clear hx hF h1 hlk hseg hAro hg he hlen
    go_enter Try.func17, Try.ntmps17
    go_wp2
    go_ret2
    exact ⟨rfl, h, Step.refl _ _⟩
  | some c =>
    simp only
    have hne : stackOf l s ≠ [] := fun e => by rw [e] at hg; simp at hg
    obtain ⟨q, hq⟩ : ∃ q, (stackOf l s).length = q + 1 := ⟨(stackOf l s).length - 1, by have := List.length_pos_iff.2 hne; omega⟩
    have hcq : (stackOf l s)[q]? = some c := by rw [List.getLast?_eq_getElem?, hq] at hg; simpa using hg
    obtain ⟨o, ho, _, hoc⟩ := stack_mem.1 (List.mem_of_getElem? hcq)
    have hkc : AgInt.KOk c := hoc ▸ (hx.ok o ho).2
    have how : (ownF l c).isSome = true := by rw [← hoc, own_some hx.ndc ho]; rfl
    obtain ⟨g, rfl⟩ := hseg.one (i := 0) (by omega)
    have d0 := hseg.cell hcq
    have HD := drop_calls h ht hkc
    rw [how] at HD
    rw [hq] at hlook hcap hsl
    have HDD := Lib.hid HD
    clear hx hF h1 hlk hseg hAro hg hne hq hcq ho hoc how HD
    go_enter Try.func17, Try.ntmps17
    go_wp2_with (go_at_call 18; refine HDD.out.mono ?_; rintro e1 w6 ⟨rfl, hI6, hs6⟩)
    go_ret2
    exact ⟨rfl, hI6, hs6⟩

theorem p1 : putL 1 [] ⟨#[97]⟩ 5 (AgInt.clipT (AgInt.clipT 0 + 9)) ((0 + 1 : Nat) : Int) = ([⟨⟨#[97]⟩, 5, 9, 1⟩], []) := by kernel_rfl
theorem p2 : putL 1 [⟨⟨#[97]⟩, 5, 9, 1⟩] ⟨#[97]⟩ 6 (AgInt.clipT (AgInt.clipT 0 + 9)) ((0 + 1 + 1 : Nat) : Int) = ([⟨⟨#[97]⟩, 6, 9, 2⟩], [5]) := by kernel_rfl
theorem p3 : takeL [⟨⟨#[97]⟩, 6, 9, 2⟩] ⟨#[97]⟩ = ([], 6, true) := by kernel_rfl

set_option maxRecDepth 100000 in
set_option maxHeartbeats 2000000 in
theorem awake_calls (w : World) : Calls Try.prog 13 #[] w fun e w' => e = .returned (.bool true) ∧ Step (fun _ => False) w w' := by
  have H1 := new_calls w 1 9
  have hm : clip1 1 0 1024 = 1 := rfl
  have hl : clip1 9 1 1048576 = 9 := rfl
  rw [hm, hl] at H1
  go_enter Try.func13, Try.ntmps13
  go_upto_region 4 with (go_at_call 14; refine H1.mono ?_; rintro e w1 ⟨p, F, rfl, hI1, hs1, hF1⟩)
  have P1 := put_calls hI1 (by omega) (by omega) (by omega) (nm := ⟨#[97]⟩) (by decide) (c := 5) (by unfold AgInt.KOk; omega) 0
  rw [p1] at P1
  have HP1 := Lib.hid P1
  have HP2 := Lib.hid (fun w2 F2 (hI2 : IdR w2 p F2 1 9 [⟨⟨#[97]⟩, 5, 9, 1⟩] (0 + 1)) => put_calls hI2 (by omega) (by omega) (by omega) (nm := ⟨#[97]⟩) (by decide) (c := 6) (by unfold AgInt.KOk; omega) 0)
  rw [p2] at HP2
  clear P1 H1
  go_upto_region 5 with (first | (go_at_call_of 16 (Value.int .i64 5); refine HP1.out.mono ?_; rintro e w2 ⟨F2, A2, c2, rfl, hR2, hA2, hI2, hs2, hn2⟩) | (go_at_call_of 16 (Value.int .i64 6); refine (HP2.out _ _ hI2).mono ?_; rintro e w3 ⟨F3, A3, c3, rfl, hR3, hA3, hI3, hs3, hn3⟩))
  have T3 := take_calls hI3 (by omega) (s := ⟨#[97]⟩) (by decide)
  rw [p3] at T3
  have hst : Step (fun k => w.heap.size ≤ k) w w3 := by
    have z1 := hs1.size
    have z2 := hs2.size
    have f2 : ∀ k, F2 k → w.heap.size ≤ k := fun k hk => (hn2 k hk).elim (hF1 k) (fun h => by omega)
    exact ((hs1.mono (fun _ _ h => h.elim)).same (hs2.mono (fun k _ h => hF1 k h))).same (hs3.mono (fun k _ h => f2 k h))
  have hF3 : ∀ k, F3 k → w.heap.size ≤ k := fun k hk => by
    have z1 := hs1.size
    have z2 := hs2.size
    have f2 : ∀ k, F2 k → w.heap.size ≤ k := fun k hk => (hn2 k hk).elim (hF1 k) (fun h => by omega)
    exact (hn3 k hk).elim (f2 k) (fun h => by omega)
  have HT3 := Lib.hid T3
  have HLN := Lib.hid (fun w4 (hI4 : IdR w4 p F3 1 9 [] (0 + 1 + 1)) => len_calls hI4)
  have HNU := Lib.hid (fun w4 (hs4 : Step F3 w3 w4) => numbers_calls (w := w4.alloc (.cells #[.int .i64 5] 3)) ((hR3.keep hs4 (fun k hk h => (hA3 k hk).2 h)).keep ((Step.refl (fun _ => False) w4).alloc (.cells #[.int .i64 5] 3)) (fun _ _ h => h)) (seg1_of (l := [5]) (blk_new w4 [.int .i64 5] 3)) (by decide))
  clear T3 hR3 hA3 HP1 HP2 hs1 hs2 hs3 hn2 hn3 hF1 hA2 hR2
  go_wp2_with (first | (go_at_call 17; refine HT3.out.mono ?_; rintro e w4 ⟨rfl, hI4, hs4⟩) | (go_at_call 36; refine (HNU.out _ hs4).mono ?_; rintro e w5 ⟨rfl, hs5⟩; have hI5 := hI4.same (((Step.refl (fun _ => False) _).alloc (.cells #[.int .i64 5] 3)).same hs5)) | (go_at_call 19; refine (HLN.out _ hI5).mono ?_; rintro e w6 ⟨rfl, rfl⟩))
  go_ret
  refine ⟨by simp, ?_⟩
  have hz := (hst.same (hs4.mono (fun k _ h => hF3 k h))).same ((((Step.refl (fun _ => False) w4).alloc (.cells #[.int .i64 5] 3)).same hs5).mono (fun _ _ h => h.elim))
  exact ⟨hz.os, hz.tape, hz.output, hz.size, fun k hk _ => hz.block k hk (by omega)⟩
end Go.Proofs.Ytgohlbljdffelaa.Idl
