/- the document's Add, Change, Take, Give. Own work of this seat. -/
import Derived.Test.YteebahjpoafhmaaRef0
namespace Go.Proofs.Yteebahjpoafhmaa.Pool
open Go.RowKit Go.Proofs.Yteebahjpoafhmaa.Kit Go.Proofs.Yteebahjpoafhmaa.PPoolPlays Go.Proofs.YteebahjpoafhmaaW.PrintWords Go.Proofs.YteebahjpoafhmaaW.PrintLast Go.Proofs.YteebahjpoafhmaaW.PrintMore
set_option linter.unusedVariables false
set_option linter.unusedSimpArgs false

/-- What put leaves, of one that is there. -/
theorem putR_is {l : List S38} (hg : Good0 l) {s : ByteArray} {x : S38} (hf : l.find? (named s) = some x) {g : S38 → S38} {y : S38} (hy : g x = y) (h0 : y.f0 = x.f0) (h4 : 0 ≤ y.f4) : putR l y = swept (upd s g l) := by
  obtain ⟨hx, hs⟩ := find_mem hf
  unfold putR swept upd
  have e1 : (l.map fun z => if z.f0 = y.f0 then y else z) = l.map fun z => if z.f0 = s then g z else z := by
    refine List.map_congr_left (fun z hz => ?_)
    rw [h0, hs]
    by_cases e : z.f0 = s
    · rw [if_pos e, if_pos e, ← nodup_inj hg.nd hx hz (hs.trans e.symm), hy]
    · rw [if_neg e, if_neg e]
  rw [e1]
  refine List.filter_congr (fun z hz => ?_)
  obtain ⟨v, hv, e⟩ := List.mem_map.1 hz
  have hz4 : 0 ≤ z.f4 := by
    by_cases h : v.f0 = s
    · rw [if_pos h, ← nodup_inj hg.nd hx hv (hs.trans h.symm), hy] at e
      rw [← e]; exact h4
    · rw [if_neg h] at e
      rw [← e]; exact (hg.num v hv).1
  unfold keepP keepB gone
  by_cases h1 : z.f3 = 2 <;> by_cases h2 : z.f4 = 0 <;> simp [h1, h2] <;> omega
theorem swept_good {l : List S38} (h : Good l) : swept l = l := swept_none (fun x hx => by
  unfold gone
  by_cases h1 : x.f3 = 2
  · have := h.kept x hx h1
    simp [h1]; omega
  · simp [h1])
/-- The document's rows after a call: the old one, or a new one. -/
def Out (w w' : World) (A : Option Addr) (c : Nat) (A' : Option Addr) (c' : Nat) (l' : List S38) : Prop := RRow w' A' l'.length c' l' ∧ (A' = A ∨ ∀ k, blockOf A' = some k → w.heap.size ≤ k) ∧ Step (fun _ => False) w w'
theorem out_same {w w' : World} {A : Option Addr} {c : Nat} {l : List S38} (h : RRow w A l.length c l) (hs : Step (fun _ => False) w w') : Out w w' A c A c l := ⟨h.keep hs (fun _ _ h => h), .inl rfl, hs⟩
theorem rfind_open {w : World} {A : Option Addr} {c : Nat} {l : List S38} (h : RRow w A l.length c l) (hmax : l.length ≤ 1024) (s : ByteArray) : ∃ y0 y1 y2 y3 y4, (∀ x, l.find? (named s) = some x → x = ⟨y0, y1, y2, y3, y4⟩) ∧
    Calls Try.prog 46 #[.slice A l.length c, .string s] w fun e w' => e = .returned (.tuple #[.agg #[.string y0, .int .i64 y1, .int .i64 y2, .int .i64 y3, .int .i64 y4], .bool (getB l s).2]) ∧ Step (fun _ => False) w w' := by
  refine ⟨(getB l s).1.f0, (getB l s).1.f1, (getB l s).1.f2, (getB l s).1.f3, (getB l s).1.f4, fun x hx => ?_, find_calls h (Nat.le_trans hmax (by omega)) s⟩
  unfold getB
  rw [hx]
theorem getB_none {l : List S38} {s : ByteArray} (h : l.find? (named s) = none) : (getB l s).2 = false := by unfold getB; rw [h]
theorem getB_some {l : List S38} {s : ByteArray} {x : S38} (h : l.find? (named s) = some x) : (getB l s).2 = true := by unfold getB; rw [h]
theorem putR_len' {l : List S38} (y : S38) {n : Nat} (h : (putR l y).length = n) : n = (putR l y).length := h.symm
section
variable {l : List S38} {s : ByteArray} {x : S38}
theorem takeR_none (h : l.find? (named s) = none) : takeR l s = (l, 6) := by unfold takeR; rw [h]
theorem takeR_9 (h : l.find? (named s) = some x) (h3 : x.f3 ≠ 0) : takeR l s = (l, 9) := by unfold takeR; rw [h]; simp [h3]
theorem takeR_8 (h : l.find? (named s) = some x) (h3 : x.f3 = 0) (h4 : x.f2 ≤ x.f4) : takeR l s = (l, 8) := by unfold takeR; rw [h]; simp [h3, h4]
theorem takeR_0 (h : l.find? (named s) = some x) (h3 : x.f3 = 0) (h4 : ¬ x.f2 ≤ x.f4) : takeR l s = (upd s (fun y => toB (y.f4 + 1) y) l, 0) := by unfold takeR; rw [h]; simp only [h3, ne_eq, not_true_eq_false, if_false, if_neg h4]
theorem chgR_none (h : l.find? (named s) = none) (g : S38 → S38) : chgR l s g = (l, 6) := by unfold chgR; rw [h]
theorem chgR_gone (h : l.find? (named s) = some x) (h3 : x.f3 = 2) (g : S38 → S38) : chgR l s g = (l, 6) := by unfold chgR; rw [h]; simp [h3]
theorem chgR_0 (h : l.find? (named s) = some x) (h3 : x.f3 ≠ 2) (g : S38 → S38) : chgR l s g = (upd s g l, 0) := by unfold chgR; rw [h]; simp [h3]
theorem rewR_none (h : l.find? (named s) = none) (n : Int) : rewR l s n = (l, 6) := by unfold rewR; rw [h]
theorem rewR_gone (h : l.find? (named s) = some x) (h3 : x.f3 = 2) (n : Int) : rewR l s n = (l, 6) := by unfold rewR; rw [h]; simp [h3]
theorem rewR_1 (h : l.find? (named s) = some x) (h3 : x.f3 ≠ 2) {n : Int} (hn : cntok n = false) : rewR l s n = (l, 1) := by unfold rewR; rw [h]; simp [h3, hn]
theorem rewR_0 (h : l.find? (named s) = some x) (h3 : x.f3 ≠ 2) {n : Int} (hn : cntok n = true) : rewR l s n = (upd s (toW n) l, 0) := by unfold rewR; rw [h]; simp [h3, hn]
theorem giveR_none (h : l.find? (named s) = none) : giveR l s = (l, false, 6) := by unfold giveR; rw [h]
theorem giveR_9 (h : l.find? (named s) = some x) (h4 : x.f4 = 0) : giveR l s = (l, false, 9) := by unfold giveR; rw [h]; simp [h4]
theorem giveR_0 (h : l.find? (named s) = some x) (h4 : x.f4 ≠ 0) : giveR l s = (swept (upd s (fun y => toB (y.f4 - 1) y) l), decide (x.f3 ≠ 0) && decide (x.f4 = 1), 0) := by unfold giveR; rw [h]; simp only [if_neg h4]
end

set_option maxRecDepth 100000 in
set_option maxHeartbeats 4000000 in
theorem rtake_calls {w : World} {A : Option Addr} {c : Nat} {l : List S38} (h : RRow w A l.length c l) (hg : Good l) (s : ByteArray) :
    Calls Try.prog 34 #[.slice A l.length c, .string s] w fun e w' => ∃ A' c', e = .returned (.tuple #[.slice A' (takeR l s).1.length c', .int .i64 (takeR l s).2]) ∧ Out w w' A c A' c' (takeR l s).1 := by
  have hmax := hg.len
  obtain ⟨x0, x1, x2, x3, x4, hx, HF⟩ := rfind_open h hmax s
  cases hf : l.find? (named s) with
  | none =>
    rw [takeR_none hf]
    rw [getB_none hf] at HF
    clear hx hf
    obtain ⟨n, hln0⟩ : ∃ n, l.length = n := ⟨_, rfl⟩
    have hln := Lib.hid hln0
    rw [hln0] at h HF hmax
    simp only [hln0]
    clear hln0
    go_enter Try.func34, Try.ntmps34
    go_wp2_with (go_at_call 46; refine HF.mono ?_; rintro e1 w1 ⟨rfl, hs1⟩)
    go_ret2
    exact ⟨A, c, rfl, out_same (by rw [hln.out]; exact h) (hs1.same ((Step.refl _ _).alloc _))⟩
  | some x =>
    obtain rfl := hx x hf
    rw [getB_some hf] at HF
    obtain ⟨hxm, hxs⟩ := find_mem hf
    have hnum := hg.num _ hxm
    have hnum : 0 ≤ x4 ∧ x4 ≤ x2 ∧ x2 ≤ 65535 := hnum
    clear hx
    have hgt := take_good hg s
    by_cases h30 : x3 = 0
    · subst h30
      by_cases h24 : x2 ≤ x4
      · rw [takeR_8 hf rfl h24]
        have q24 : (x4 ≥ x2) = True := eq_true h24
        clear hgt hf hxm hxs
        obtain ⟨n, hln0⟩ : ∃ n, l.length = n := ⟨_, rfl⟩
        have hln := Lib.hid hln0
        rw [hln0] at h HF hmax
        try simp only [hln0]
        clear hln0
        go_enter Try.func34, Try.ntmps34
        go_upto_region 2 with (go_at_call 46; refine HF.mono ?_; rintro e1 w1 ⟨rfl, hs1⟩)
        refine alloc_next (cs := [.string x0, .int .i64 x1, .int .i64 x2, .int .i64 0, .int .i64 x4]) ?_
        intro w2 hE hs2
        have hwE : w.heap.size ≤ w1.heap.size := hs1.size
        have h2 := (h.keep hs1 (fun _ _ h => h)).keep hs2 (fun _ _ h => h)
        have hs := hs1.same hs2
        have hAE : ∀ k, blockOf A = some k → k ≠ w1.heap.size := fun k hk => by have := (h.keep hs1 (fun _ _ h => h)).lt hk; omega
        clear HF hs1 hs2
        generalize w1.heap.size = eb at *
        have e1 := hE.cell (i := 1) rfl
        have e2 := hE.cell (i := 2) rfl
        have e3 := hE.cell (i := 3) rfl
        have e4 := hE.cell (i := 4) rfl
        go_wp2
        go_ret2
        exact ⟨A, c, rfl, out_same (by rw [hln.out]; exact h) hs⟩
      · rw [takeR_0 hf rfl h24] at hgt ⊢
        have q24 : (x4 ≥ x2) = False := eq_false h24
        have hw : wrap64 (x4 + 1) = x4 + 1 := by unfold wrap64; omega
        have hpr := Lib.hid (show putR l ⟨x0, x1, x2, 0, x4 + 1⟩ = upd s (fun y => toB (y.f4 + 1) y) l from (putR_is hg.toGood0 hf (g := fun y => toB (y.f4 + 1) y) (y := ⟨x0, x1, x2, 0, x4 + 1⟩) rfl rfl (by show 0 ≤ x4 + 1; omega)).trans (swept_good hgt))
        obtain ⟨l', hl'⟩ : ∃ l', upd s (fun y => toB (y.f4 + 1) y) l = l' := ⟨_, rfl⟩
        simp only [hl'] at hpr hgt ⊢
        clear hl' hf hxm hxs
        obtain ⟨n, hln0⟩ : ∃ n, l.length = n := ⟨_, rfl⟩
        have hln := Lib.hid hln0
        rw [hln0] at h HF hmax
        try simp only [hln0]
        clear hln0
        go_enter Try.func34, Try.ntmps34
        go_upto_region 2 with (go_at_call 46; refine HF.mono ?_; rintro e1 w1 ⟨rfl, hs1⟩)
        refine alloc_next (cs := [.string x0, .int .i64 x1, .int .i64 x2, .int .i64 0, .int .i64 x4]) ?_
        intro w2 hE hs2
        have hwE : w.heap.size ≤ w1.heap.size := hs1.size
        have h2 := (h.keep hs1 (fun _ _ h => h)).keep hs2 (fun _ _ h => h)
        have hs := hs1.same hs2
        have hAE : ∀ k, blockOf A = some k → k ≠ w1.heap.size := fun k hk => by have := (h.keep hs1 (fun _ _ h => h)).lt hk; omega
        clear HF hs1 hs2
        generalize w1.heap.size = eb at *
        have e1 := hE.cell (i := 1) rfl
        have e2 := hE.cell (i := 2) rfl
        have e3 := hE.cell (i := 3) rfl
        have e4 := hE.cell (i := 4) rfl
        have f4 := hE.free 4
        have hnn : n ≤ 500000 := by omega
        go_upto_region 9 with (fail)
        have hst3 := step_put w2 eb 4 (.int .i64 (x4 + 1))
        have hE3 := hE.set 4 (.int .i64 (x4 + 1))
        have h3 := h2.keep hst3 (fun k hk e => hAE k hk e)
        have hs3 := hs.trans hst3 (fun j hj e => by omega)
        clear e1 e2 e3 e4 f4 hst3
        generalize w2.setCell ⟨eb, 4, none⟩ (.int .i64 (x4 + 1)) = w3 at *
        have g0 := hE3.cell (i := 0) rfl
        have g1 := hE3.cell (i := 1) rfl
        have g2 := hE3.cell (i := 2) rfl
        have g3 := hE3.cell (i := 3) rfl
        have g4 := hE3.cell (i := 4) rfl
        have HP0 := put_calls h3 hnn x0 x1 x2 0 (x4 + 1)
        rw [hpr.out] at HP0
        go_wp2_with (go_at_call 47; refine HP0.mono ?_; rintro e4 w4 ⟨A4, c4, rfl, hR4, hn4, hs4⟩)
        go_ret2
        exact ⟨A4, c4, rfl, hR4, .inr (fun k hk => Nat.le_trans hs3.size (hn4 k hk)), hs3.same hs4⟩
    · rw [takeR_9 hf h30]
      have q30 : (x3 != 0) = true := by simp [h30]
      have q30' : (x3 == 0) = false := by simp [h30]
      clear hgt hf hxm hxs
      obtain ⟨n, hln0⟩ : ∃ n, l.length = n := ⟨_, rfl⟩
      have hln := Lib.hid hln0
      rw [hln0] at h HF hmax
      try simp only [hln0]
      clear hln0
      go_enter Try.func34, Try.ntmps34
      go_upto_region 2 with (go_at_call 46; refine HF.mono ?_; rintro e1 w1 ⟨rfl, hs1⟩)
      refine alloc_next (cs := [.string x0, .int .i64 x1, .int .i64 x2, .int .i64 x3, .int .i64 x4]) ?_
      intro w2 hE hs2
      have hwE : w.heap.size ≤ w1.heap.size := hs1.size
      have h2 := (h.keep hs1 (fun _ _ h => h)).keep hs2 (fun _ _ h => h)
      have hs := hs1.same hs2
      have hAE : ∀ k, blockOf A = some k → k ≠ w1.heap.size := fun k hk => by have := (h.keep hs1 (fun _ _ h => h)).lt hk; omega
      clear HF hs1 hs2
      generalize w1.heap.size = eb at *
      have e1 := hE.cell (i := 1) rfl
      have e2 := hE.cell (i := 2) rfl
      have e3 := hE.cell (i := 3) rfl
      have e4 := hE.cell (i := 4) rfl
      go_wp2
      go_ret2
      exact ⟨A, c, rfl, out_same (by rw [hln.out]; exact h) hs⟩

end Go.Proofs.Yteebahjpoafhmaa.Pool
