/- health: who is up, in memory; set, First, Waits, Up, Epoch. Own work of this seat. -/
import Derived.Test.YtghiklaeenhljaaHea1
import Derived.Test.YtghiklaeenhljaaAgTStr
namespace Go.Proofs.Ytghiklaeenhljaa.Hea
open Go.RowKit Go.Proofs.Ytghiklaeenhljaa.Kit Go.Proofs.Ytghiklaeenhljaa.PStewardRamps Go.Proofs.YtghiklaeenhljaaW.PrintWords Go.Proofs.Ytghiklaeenhljaa.AgP Go.Proofs.Ytghiklaeenhljaa
set_option linter.unusedVariables false
set_option linter.unusedSimpArgs false

/-- Somebody: how it is, and whether a probe is without a result. -/
structure Ho where
  pb : Pb
  waits : Bool
def hoc (x : Ho) : List Value := [.bool x.pb.up, .int .i64 x.pb.good, .int .i64 x.pb.bad, .int .i64 x.pb.since, .bool x.waits]
def encH (x : Ho) : Value := .agg #[.bool x.pb.up, .int .i64 x.pb.good, .int .i64 x.pb.bad, .int .i64 x.pb.since, .bool x.waits]
def zHo : Ho := ⟨⟨false, 0, 0, 0⟩, false⟩
theorem zone (w : World) : (zeroValue 77).run Try.prog w = .ok (encH zHo) w := by kernel_rfl
def PbOk (p : Pb) : Prop := (0 ≤ p.good ∧ p.good ≤ 1000) ∧ (0 ≤ p.bad ∧ p.bad ≤ 1000)
def setQ (q : ByteArray → Option Ho) (s : ByteArray) (v : Option Ho) : ByteArray → Option Ho := fun r => if r = s then v else q r
theorem msk : Go.Maps.Keyed Try.prog 9 := Go.Maps.string_keyed Try.underlying9
theorem mskey {s : ByteArray} (h : s.size ≤ 1000) : keyOf Try.prog 9 (.string s) = some (slit s) := skey Try.underlying9 (by omega)

structure HeX (w : World) (p a M : Nat) (FA : Nat → Prop) (c : Cf) (q : ByteArray → Option Ho) (L : List (Ev ByteArray)) (t n m : Nat) (ep : Int) (f : Lit → Option Value) : Prop where
  blk : Blk w p 73 [.int .i64 c.every, .int .i64 c.wait, .int .i64 c.rise, .int .i64 c.fall, .map (some M), .pointer (some ⟨a, 0, none⟩), .int .i64 ep]
  ag : AgStr.AgR w a FA L t
  mg : MG Try.prog 9 w M n m f
  fn : ∀ s, f (slit s) = (q s).map encH
  ne : ¬ FA p ∧ ¬ FA M ∧ p ≠ M
  ok : ∀ s x, q s = some x → PbOk x.pb
  cok : CfOk c
/-- At p, owning blocks of F alone: each name is as q says, L is what is to be done; u bounds how often was stored. -/
def HeR (w : World) (p : Nat) (F : Nat → Prop) (c : Cf) (q : ByteArray → Option Ho) (L : List (Ev ByteArray)) (t u : Nat) (ep : Int) : Prop :=
  (∀ k, F k → k < w.heap.size) ∧ ∃ a M FA n m f, HeX w p a M FA c q L t n m ep f ∧ (n ≤ u ∧ t ≤ u) ∧ ∀ k, (k = p ∨ k = M ∨ FA k) → F k
section
variable {w w' : World} {p a M : Nat} {FA F G : Nat → Prop} {c : Cf} {q : ByteArray → Option Ho} {L : List (Ev ByteArray)} {t n m u : Nat} {ep : Int} {f : Lit → Option Value}
theorem HeX.keep (h : HeX w p a M FA c q L t n m ep f) (hs : Step G w w') (hd : ∀ k, (k = p ∨ k = M ∨ FA k) → ¬ G k) : HeX w' p a M FA c q L t n m ep f :=
  ⟨h.blk.keep hs (hd _ (.inl rfl)), h.ag.keep hs (fun k hk => hd k (.inr (.inr hk))), h.mg.keep hs (hd _ (.inr (.inl rfl))), h.fn, h.ne, h.ok, h.cok⟩
theorem HeR.keep (h : HeR w p F c q L t u ep) (hs : Step G w w') (hd : ∀ k, F k → ¬ G k) : HeR w' p F c q L t u ep := by
  obtain ⟨h1, a, M, FA, n, m, f, hx, hu, hF⟩ := h
  have := hs.size
  exact ⟨fun k hk => by have := h1 k hk; omega, a, M, FA, n, m, f, hx.keep hs (fun k hk => hd k (hF k hk)), hu, hF⟩
theorem HeR.same (h : HeR w p F c q L t u ep) (hs : Step (fun _ => False) w w') : HeR w' p F c q L t u ep := h.keep hs (fun _ _ h => h)
theorem HeX.look (h : HeX w p a M FA c q L t n m ep f) {s : ByteArray} (hs : s.size ≤ 1000) : (Instr.lookup 69 (.map (some M)) (.string s) false).run Try.prog w = .ok (encH ((q s).getD zHo)) w := by
  have := h.mg.look msk Try.underlying69 (zone w) (slit_ok s) (mskey hs)
  rw [h.fn s] at this
  rw [this]
  cases q s <;> rfl
theorem HeX.look_ok (h : HeX w p a M FA c q L t n m ep f) {s : ByteArray} (hs : s.size ≤ 1000) : (Instr.lookup 69 (.map (some M)) (.string s) true).run Try.prog w = .ok (.tuple #[encH ((q s).getD zHo), .bool (q s).isSome]) w := by
  have := h.mg.look_ok msk Try.underlying69 (zone w) (slit_ok s) (mskey hs)
  rw [h.fn s] at this
  rw [this]
  cases q s <;> rfl
end

/-- What set leaves of the times. -/
def timL (L : List (Ev ByteArray)) (t : Nat) (s : ByteArray) (v : Int) : List (Ev ByteArray) × Nat := if v ≤ 1099511627776 then (setL L s v ((t + 1 : Nat) : Int), t + 1) else (dropL L s, t)

set_option maxRecDepth 100000 in
set_option maxHeartbeats 2000000 in
theorem set_calls {w : World} {p : Nat} {F : Nat → Prop} {c : Cf} {q : ByteArray → Option Ho} {L : List (Ev ByteArray)} {t u : Nat} {ep : Int} (h : HeR w p F c q L t u ep) (hu : u ≤ 80000) {s : ByteArray} (hs : s.size ≤ 1000) {at_ ticks : Int} (h0 : 0 ≤ at_ ∧ at_ ≤ 1099511627776) (h1 : 1 ≤ ticks ∧ ticks ≤ 1048576) :
    Calls Try.prog 30 #[.pointer (some ⟨p, 0, none⟩), .string s, .int .i64 at_, .int .i64 ticks] w fun e w' => e = .returned (.tuple #[]) ∧ ∃ F', HeR w' p F' c q (timL L t s (at_ + ticks)).1 (timL L t s (at_ + ticks)).2 (u + 1) ep ∧ Step F w w' ∧ ∀ k, F' k → F k ∨ w.heap.size ≤ k := by
  obtain ⟨g1, a, M, FA, n, m, f, hx, hnu, hF⟩ := h
  have c5 := hx.blk.cell (i := 5) rfl
  have hks : AgStr.KOk s := hs
  unfold timL
  by_cases hv : at_ + ticks ≤ 1099511627776
  · rw [if_pos hv]
    have HS := Lib.hid (AgStr.set_calls hx.ag (by omega) hks (at_ + ticks))
    have hcl : AgStr.clipT (at_ + ticks) = at_ + ticks := by unfold AgStr.clipT; omega
    rw [hcl] at HS
    have HX := Lib.hid hx
    have HF := Lib.hid hF
    have hp := hx.blk.lt
    have hM := hx.mg.lt
    clear hx hF hcl
    go_enter Try.func30, Try.ntmps30
    go_wp2_with (go_at_call 50; refine HS.out.mono ?_; rintro e w2 ⟨rfl, F2, hA2, hs2, hn2⟩)
    have hsz := hs2.size
    go_end0
    have hx2 : HeX w2 p a M F2 c q (setL L s (at_ + ticks) ((t + 1 : Nat) : Int)) (t + 1) n m ep f :=
      ⟨HX.out.blk.keep hs2 HX.out.ne.1, hA2, HX.out.mg.keep hs2 HX.out.ne.2.1, HX.out.fn, ⟨fun h => (hn2 p h).elim HX.out.ne.1 (fun h => by omega), fun h => (hn2 M h).elim HX.out.ne.2.1 (fun h => by omega), HX.out.ne.2.2⟩, HX.out.ok, HX.out.cok⟩
    refine ⟨rfl, fun k => F k ∨ (w.heap.size ≤ k ∧ k < w2.heap.size), ⟨fun k hk => ?_, a, M, F2, n, m, f, hx2, by omega, fun k hk => ?_⟩, hs2.mono (fun k _ h => HF.out k (.inr (.inr h))), fun k hk => hk.imp id And.left⟩
    · rcases hk with h | h
      · have := g1 k h; omega
      · exact h.2
    · rcases hk with h | h | h
      · exact .inl (HF.out k (.inl h))
      · exact .inl (HF.out k (.inr (.inl h)))
      · exact (hn2 k h).imp (fun h => HF.out k (.inr (.inr h))) (fun h' => ⟨h', hA2.lt h⟩)
  · rw [if_neg hv]
    have HS := Lib.hid (AgStr.drop_calls hx.ag (by omega) hks)
    have HX := Lib.hid hx
    have HF := Lib.hid hF
    clear hx hF
    go_enter Try.func30, Try.ntmps30
    go_wp2_with (go_at_call 40; refine HS.out.mono ?_; rintro e w2 ⟨rfl, hA2, hs2⟩)
    have hsz := hs2.size
    go_end0
    exact ⟨rfl, F, ⟨fun k hk => by have := g1 k hk; omega, a, M, FA, n, m, f, ⟨HX.out.blk.keep hs2 HX.out.ne.1, hA2, HX.out.mg.keep hs2 HX.out.ne.2.1, HX.out.fn, HX.out.ne, HX.out.ok, HX.out.cok⟩, by omega, HF.out⟩, hs2.mono (fun k _ h => HF.out k (.inr (.inr h))), fun k hk => .inl hk⟩

set_option maxRecDepth 100000 in
theorem first_calls {w : World} {p : Nat} {F : Nat → Prop} {c : Cf} {q : ByteArray → Option Ho} {L : List (Ev ByteArray)} {t u : Nat} {ep : Int} (h : HeR w p F c q L t u ep) (hu : u ≤ 80000) :
    Calls Try.prog 9 #[.pointer (some ⟨p, 0, none⟩)] w fun e w' => e = .returned (.tuple #[.int .i64 (AgStr.firstL L).1, .bool (AgStr.firstL L).2]) ∧ w = w' := by
  obtain ⟨g1, a, M, FA, n, m, f, hx, hnu, hF⟩ := h
  have c5 := hx.blk.cell (i := 5) rfl
  have HS := AgStr.first_calls hx.ag (by omega)
  generalize AgStr.firstL L = r at *
  clear hx hF
  go_enter Try.func9, Try.ntmps9
  go_wp2_with (go_at_call 31; refine HS.mono ?_; rintro e w2 ⟨rfl, rfl⟩)
  go_ret2
  exact ⟨rfl, rfl⟩

set_option maxRecDepth 100000 in
theorem waits_calls {w : World} {p : Nat} {F : Nat → Prop} {c : Cf} {q : ByteArray → Option Ho} {L : List (Ev ByteArray)} {t u : Nat} {ep : Int} (h : HeR w p F c q L t u ep) {s : ByteArray} (hs : s.size ≤ 1000) :
    Calls Try.prog 11 #[.pointer (some ⟨p, 0, none⟩), .string s] w fun e w' => e = .returned (.bool ((q s).getD zHo).waits) ∧ w = w' := by
  obtain ⟨g1, a, M, FA, n, m, f, hx, hnu, hF⟩ := h
  have c4 := hx.blk.cell (i := 4) rfl
  have hl := hx.look hs
  have hu1 := Try.underlying77
  have hfd : ∀ (b0 : Bool) (b1 b2 b3 : Int) (b4 : Bool) (w : World), (Instr.field 77 (.agg #[.bool b0, .int .i64 b1, .int .i64 b2, .int .i64 b3, .bool b4]) 1).run Try.prog w = .ok (.bool b4) w := fun _ _ _ _ _ _ => by kernel_rfl
  unfold encH at hl
  generalize (q s).getD zHo = x at *
  clear hx hF
  go_enter Try.func11, Try.ntmps11
  go_wp2
  go_ret
  exact ⟨rfl, rfl⟩

set_option maxRecDepth 100000 in
theorem epoch_calls {w : World} {p : Nat} {F : Nat → Prop} {c : Cf} {q : ByteArray → Option Ho} {L : List (Ev ByteArray)} {t u : Nat} {ep : Int} (h : HeR w p F c q L t u ep) :
    Calls Try.prog 15 #[.pointer (some ⟨p, 0, none⟩)] w fun e w' => e = .returned (.int .i64 ep) ∧ w = w' := by
  obtain ⟨g1, a, M, FA, n, m, f, hx, hnu, hF⟩ := h
  have c6 := hx.blk.cell (i := 6) rfl
  clear hx hF
  go_enter Try.func15, Try.ntmps15
  go_wp2
  go_ret
  exact ⟨rfl, rfl⟩

def upV (q : ByteArray → Option Ho) (s : ByteArray) : List Value := match q s with | none => [.string ⟨#[]⟩, .bool false, .int .i64 0] | some x => [.string s, .bool x.pb.up, .int .i64 x.pb.since]
set_option maxRecDepth 100000 in
set_option maxHeartbeats 2000000 in
theorem up_calls {w : World} {p : Nat} {F : Nat → Prop} {c : Cf} {q : ByteArray → Option Ho} {L : List (Ev ByteArray)} {t u : Nat} {ep : Int} (h : HeR w p F c q L t u ep) {s : ByteArray} (hs : s.size ≤ 1000) :
    Calls Try.prog 13 #[.pointer (some ⟨p, 0, none⟩), .string s] w fun e w' => e = .returned (.tuple #[.agg (upV q s).toArray, .bool (q s).isSome]) ∧ Step (fun _ => False) w w' := by
  obtain ⟨g1, a, M, FA, n, m, f, hx, hnu, hF⟩ := h
  have HX := Lib.hid hx
  have HL := Lib.hid (fun w1 (hs1 : Step (fun _ => False) w w1) => (hx.keep hs1 (fun _ _ h => h)).look_ok hs)
  have hu1 := Try.underlying77
  unfold encH at HL
  unfold upV
  generalize q s = y at *
  clear hx hF
  cases y with
  | none =>
    simp only [Option.getD_none, Option.isSome_none] at HL ⊢
    go_enter Try.func13, Try.ntmps13
    go_upto_region 1 with (fail)
    refine alloc_next (cs := [.string ⟨#[]⟩, .bool false, .int .i64 0]) ?_
    intro w1 hZ hs1
    have c4 := (HX.out.blk.keep hs1 (fun h => h)).cell (i := 4) rfl
    have hl := HL.out w1 hs1
    generalize hwb : w.heap.size = wb at *
    have hwl := hs1.size
    go_upto_region 3 with (fail)
    have hal : Step (fun _ => False) w1 (w1.alloc (.cells #[.bool false, .int .i64 0, .int .i64 0, .int .i64 0, .bool false] 77)) := (Step.refl _ _).alloc _
    have hZ2 := hZ.keep hal (fun h => h)
    go_wp2_with (refine wpList_store_blk rfl 39 (.tmp 4) (.tmp 19) rfl hZ2 rfl (vs := [.string ⟨#[]⟩, .bool false, .int .i64 0]) rfl (by kernel_rfl) rfl (fun v hv => by simp only [List.mem_cons, List.not_mem_nil, or_false] at hv; rcases hv with rfl | rfl | rfl <;> rfl) ?_; intro w9 hZ9 hs9)
    try simp only [Exit.inBlock, Exit.then]
    exact post_cell_tmp (cs := [.string ⟨#[]⟩, .bool false, .int .i64 0]) rfl rfl hZ9 Try.underlying39 rfl (by kernel_rfl) rfl rfl ⟨rfl, (hs1.same hal).trans hs9 (fun j hj e => by have : j = wb := e; omega)⟩
  | some x =>
    simp only [Option.getD_some, Option.isSome_some] at HL ⊢
    obtain ⟨⟨x0, x1, x2, x3⟩, x4⟩ := x
    simp only at HL ⊢
    go_enter Try.func13, Try.ntmps13
    go_upto_region 1 with (fail)
    refine alloc_next (cs := [.string ⟨#[]⟩, .bool false, .int .i64 0]) ?_
    intro w1 hZ hs1
    have c4 := (HX.out.blk.keep hs1 (fun h => h)).cell (i := 4) rfl
    have hl := HL.out w1 hs1
    generalize hwb : w.heap.size = wb at *
    have hwl := hs1.size
    go_upto_region 4 with (fail)
    refine alloc_next (cs := [.bool x0, .int .i64 x1, .int .i64 x2, .int .i64 x3, .bool x4]) ?_
    intro w2 hO hs2
    have o0 := hO.cell (i := 0) rfl
    have o3 := hO.cell (i := 3) rfl
    have hZ2 := hZ.keep hs2 (fun h => h)
    go_wp2_with (refine wpList_store_blk rfl 39 (.tmp 4) (.tmp 27) rfl hZ2 rfl (vs := [.string s, .bool x0, .int .i64 x3]) rfl (by kernel_rfl) rfl (fun v hv => by simp only [List.mem_cons, List.not_mem_nil, or_false] at hv; rcases hv with rfl | rfl | rfl <;> rfl) ?_; intro w9 hZ9 hs9)
    try simp only [Exit.inBlock, Exit.then]
    exact post_cell_tmp (cs := [.string s, .bool x0, .int .i64 x3]) rfl rfl hZ9 Try.underlying39 rfl (by kernel_rfl) rfl rfl ⟨rfl, (hs1.same hs2).trans hs9 (fun j hj e => by have : j = wb := e; omega)⟩
end Go.Proofs.Ytghiklaeenhljaa.Hea
