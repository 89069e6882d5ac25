/- agenda: Pop and Push of the pile. Own work of this seat. -/
import Derived.Test.YtgohlbljdffelaaAgBInt
namespace Go.Proofs.Ytgohlbljdffelaa.AgInt
open Go.RowKit Go.Proofs.Ytgohlbljdffelaa.Kit Go.Proofs.Ytgohlbljdffelaa.Cmp Go.Proofs.Ytgohlbljdffelaa.HeapP
set_option linter.unusedVariables false
set_option linter.unusedSimpArgs false

theorem HM.take {w w' : World} {a : Nat} {M : Value} {turn : Int} {A : Option Addr} {c : Nat} {xs : List It} (h : HM w a M turn A c xs) {m : Nat} (hm : m ≤ xs.length) (hs : Step (· = a) w w') (hb : Blk w' a 72 [.slice A m c, M, .int .i64 turn]) : HM w' a M turn A c (xs.take m) := by
  have hl : (xs.take m).length = m := by rw [List.length_take]; omega
  have hr := (h.row.keep hs (fun k hk e => h.nA (by rw [← e]; exact hk))).take hm
  refine ⟨by rw [hl]; exact hb, ?_, fun i x hi => ?_, ?_, fun x hx => h.na x (List.mem_of_mem_take hx), h.nA⟩
  · rw [hl, List.map_take]
    simpa using hr
  · rw [List.getElem?_take] at hi
    split at hi
    · exact (h.itm i x hi).keep hs (h.na x (List.mem_of_getElem? hi)).1
    · cases hi
  · rw [List.map_take]
    exact h.nd.sublist (List.take_sublist _ _)

set_option maxRecDepth 100000 in
set_option maxHeartbeats 1000000 in
theorem pop_calls {w : World} {a : Nat} {M : Value} {turn : Int} {A : Option Addr} {c : Nat} {xs : List It} (h : HM w a M turn A c xs) {m : Nat} (hm : xs.length = m + 1) (hmax : m ≤ 1000000) :
    Calls Try.prog 131 #[.pointer (some ⟨a, 0, none⟩)] w fun e w' => e = .returned (.iface 73 (ptr (lg xs m))) ∧ HM w' a M turn A c (xs.take m) ∧ Step (· = a) w w' := by
  obtain ⟨g, rfl, hci, hbi⟩ := h.pick (i := m) (by omega)
  have c0 := h.blk.cell (i := 0) rfl
  have f0 := h.blk.free 0
  have hle := h.row.le
  rw [hm] at c0 hle
  have H := Lib.hid h
  have HM := Lib.hid hm
  unfold ptr
  clear h hm hbi
  generalize (lg xs m).blk = bi at *
  go_enter Try.func131, Try.ntmps131
  go_wp2
  go_ret
  have hst : Step (· = a) w (w.setCell ⟨a, 0, none⟩ (.slice (some ⟨g, 0, none⟩) m c)) := step_put w a 0 _
  exact ⟨rfl, H.out.take (by have := HM.out; omega) hst (H.out.blk.set 0 _), hst⟩

/-- What is appended to. -/
theorem HM.push {w w' : World} {a : Nat} {M : Value} {turn : Int} {A A' : Option Addr} {c c' : Nat} {xs : List It} {x : It} {F : Nat → Prop} (h : HM w a M turn A c xs) (hs : Step F w w') (hF : ∀ y ∈ xs, ¬ F y.blk) (hb : Blk w' a 72 [.slice A' (xs.length + 1) c', M, .int .i64 turn])
    (hr : FSeg w' 73 1 A' (xs.length + 1) c' (xs.map ptr ++ [ptr x])) (hx : Blk w' x.blk 76 (icells x xs.length)) (hn : ∀ y ∈ xs, y.blk ≠ x.blk) (hxa : x.blk ≠ a) (hA : ∀ k, blockOf A' = some k → k ≠ a ∧ k ≠ x.blk ∧ ∀ y ∈ xs, y.blk ≠ k) : HM w' a M turn A' c' (xs ++ [x]) := by
  have hl : (xs ++ [x]).length = xs.length + 1 := by simp
  refine ⟨by rw [hl]; exact hb, by rw [hl, List.map_append]; exact hr, fun i y hi => ?_, ?_, fun y hy => ?_, fun e => (hA a e).1 rfl⟩
  · rcases Nat.lt_or_ge i xs.length with hi' | hi'
    · rw [List.getElem?_append_left hi'] at hi
      exact (h.itm i y hi).keep hs (hF y (List.mem_of_getElem? hi))
    · have hil := (List.getElem?_eq_some_iff.1 hi).1
      rw [hl] at hil
      obtain rfl : i = xs.length := by omega
      rw [List.getElem?_append_right (Nat.le_refl _), Nat.sub_self] at hi
      obtain rfl := Option.some.inj hi
      exact hx
  · rw [List.map_append]
    refine List.nodup_append.2 ⟨h.nd, by simp, fun b hb1 c hc e => ?_⟩
    obtain ⟨y, hy, rfl⟩ := List.mem_map.1 hb1
    simp only [List.map_cons, List.map_nil, List.mem_singleton] at hc
    exact hn y hy (e.trans hc)
  · rcases List.mem_append.1 hy with hy | hy
    · exact ⟨(h.na y hy).1, fun e => (hA _ e).2.2 y hy rfl⟩
    · obtain rfl : y = x := by simpa using hy
      exact ⟨hxa, fun e => (hA _ e).2.1 rfl⟩

set_option maxRecDepth 100000 in
set_option maxHeartbeats 1000000 in
theorem push_calls {w : World} {a : Nat} {M : Value} {turn : Int} {A : Option Addr} {c : Nat} {xs : List It} (h : HM w a M turn A c xs) (hmax : xs.length ≤ 100000) (x : It) {p0 : Nat} (hx : Blk w x.blk 76 (icells x p0)) (hn : ∀ y ∈ xs, y.blk ≠ x.blk) (hxa : x.blk ≠ a) (hxA : blockOf A ≠ some x.blk) :
    Calls Try.prog 132 #[.pointer (some ⟨a, 0, none⟩), .iface 73 (ptr x)] w fun e w' => e = .returned (.tuple #[]) ∧ ∃ A' c', HM w' a M turn A' c' (xs ++ [x]) ∧ Step (fun k => k = a ∨ blockOf A = some k ∨ k = x.blk) w w' ∧ (blockOf A' = blockOf A ∨ ∃ k, blockOf A' = some k ∧ w.heap.size ≤ k) := by
  obtain ⟨i0, hi0, hp⟩ : ∃ i, Try.prog.info? 73 = some i ∧ (i.zero, i.size, i.bytes) = (some (.pointer none), 1, 8) := by
    exact Option.map_eq_some_iff.1 (by kernel_rfl : (Try.prog.info? 73).map (fun i => (i.zero, i.size, i.bytes)) = some (some (.pointer none), 1, 8))
  simp only [Prod.mk.injEq] at hp
  obtain ⟨hz0, hs0, hy0⟩ := hp
  have c0 := h.blk.cell (i := 0) rfl
  have x3 := hx.cell (i := 3) rfl
  have g3 := hx.free 3
  have hal := h.blk.lt
  have hxl := hx.lt
  have H := Lib.hid h
  have HX := Lib.hid hx
  have HN := Lib.hid hn
  unfold ptr
  have hta : ∀ (b : Nat) (w : World), (Instr.typeAssert (.iface 73 (.pointer (some ⟨b, 0, none⟩))) 20 73 false).run Try.prog w = .ok (.pointer (some ⟨b, 0, none⟩)) w := fun _ _ => by kernel_rfl
  have hset : ∀ v : Nat, (icells x p0).set 3 (.int .i64 (v : Int)) = icells x v := fun v => rfl
  have HSET := Lib.hid hset
  clear h hx hn hset
  go_enter Try.func132, Try.ntmps132
  go_upto_region 2 with (fail)
  refine put_plain HX.out ?_
  intro w1 hX1 hs1
  rw [HSET.out] at hX1
  have hB1 := H.out.blk.keep hs1 (fun e => hxa e.symm)
  have hR1 := H.out.row.keep hs1 (fun k hk e => hxA (by rw [← e]; exact hk))
  have d0 := hB1.cell (i := 0) rfl
  clear c0 x3 g3
  have hsz := hs1.size
  have hst5 : Step (fun _ => False) w1 (w1.alloc (.cells #[.pointer (some ⟨x.blk, 0, none⟩)] 73)) := (Step.refl _ _).alloc _
  have hR5 := hR1.keep hst5 (fun _ _ h => h)
  have hb5 : Blk (w1.alloc (.cells #[.pointer (some ⟨x.blk, 0, none⟩)] 73)) w1.heap.size 73 [ptr x] := blk_new _ [ptr x] _
  go_wp2_with (at_builtin; refine wpList_append_flat _ rfl (.tmp 17) (.tmp 19) 70 rfl 73 i0 _ 1 8 Try.underlying70 hi0 hz0 rfl hs0 hy0 (by omega) rfl hR5 rfl (m := 1) (r := [ptr x]) rfl (fun _ => by omega) (fun v hv => by obtain rfl := List.mem_singleton.1 hv; rfl) (fun j v hj => by rw [addr_add', Nat.zero_add]; exact hb5.cell hj) (by omega) ?_; intro A2 c2 w6 hE2 hs6 hat2; have hB6 := (hB1.keep hst5 (fun h => h)).keep hs6 (fun hk => H.out.nA hk); have e0 := hB6.cell (i := 0) rfl; have e1 := hB6.free 0)
  go_end0
  have hst : Step (· = a) w6 (w6.setCell ⟨a, 0, none⟩ (.slice A2 (xs.length + 1) c2)) := step_put w6 a 0 _
  have h56 := (hst5.mono (G := fun k => blockOf A = some k) (fun _ _ h => h.elim)).same hs6
  have hall : Step (fun k => k = a ∨ blockOf A = some k ∨ k = x.blk) w (w6.setCell ⟨a, 0, none⟩ (.slice A2 (xs.length + 1) c2)) :=
    ((hs1.mono (fun _ _ h => .inr (.inr h))).same (h56.mono (fun _ _ h => .inr (.inl h)))).same (hst.mono (fun _ _ h => .inl h))
  have hne : blockOf A2 = blockOf A ∨ ∃ k, blockOf A2 = some k ∧ w.heap.size ≤ k := by
    rcases hat2 with e | ⟨k, hk, hle⟩
    · exact .inl e
    · refine .inr ⟨k, hk, ?_⟩
      have := hst5.size
      omega
  refine ⟨rfl, A2, c2, H.out.push hall (fun y hy e => ?_) (hB6.set 0 _) (hE2.keep hst (fun k hk e => ?_)) ((hX1.keep h56 hxA).keep hst hxa) HN.out hxa (fun k hk => ?_), hall, hne⟩
  · rcases e with e | e | e
    · exact (H.out.na y hy).1 e
    · exact (H.out.na y hy).2 e
    · exact HN.out y hy e
  · subst e
    rcases hne with e | ⟨j, hj, hle⟩
    · exact H.out.nA (by rw [← e]; exact hk)
    · rw [hk] at hj; obtain rfl := Option.some.inj hj; omega
  · rcases hne with e | ⟨j, hj, hle⟩
    · rw [e] at hk
      exact ⟨fun e => H.out.nA (by rw [← e]; exact hk), fun e => hxA (by rw [← e]; exact hk), fun y hy e => (H.out.na y hy).2 (by rw [e]; exact hk)⟩
    · rw [hk] at hj
      obtain rfl := Option.some.inj hj
      refine ⟨by omega, by omega, fun y hy e => ?_⟩
      obtain ⟨i, hi⟩ := List.getElem?_of_mem hy
      have := (H.out.itm i y hi).lt
      omega
end Go.Proofs.Ytgohlbljdffelaa.AgInt
