/- agenda: slices.SortFunc of its items by their order, slices.SortedFunc of slices.Values, Keys. Own work of this seat; no condition but on lengths. -/
import Derived.Test.YtgohlbljdffelaaAgVInt
import Derived.Test.YtgohlbljdffelaaSortL
namespace Go.Proofs.Ytgohlbljdffelaa.AgInt
open Go.RowKit Go.Shelf Go.Sort Go.Proofs.Ytgohlbljdffelaa.Kit Go.Proofs.Ytgohlbljdffelaa.Cmp Go.Proofs.Ytgohlbljdffelaa.AgP Go.Proofs.Ytgohlbljdffelaa
set_option linter.unusedVariables false
set_option linter.unusedSimpArgs false

set_option maxRecDepth 100000 in
set_option maxHeartbeats 1000000 in
theorem compare_exact {w : World} (x y : It) (i j : Nat) (hx : Blk w x.blk 76 (icells x i)) (hy : Blk w y.blk 76 (icells y j)) :
    Calls Try.prog 73 #[ptr x, ptr y] w fun e w' => e = .returned (.int .i64 (cmpV x y)) ∧ w' = (w.alloc (.cells #[.int .i64 (cmpI x.tm y.tm), .int .i64 (cmpI x.turn y.turn)] 3)).drew := by
  unfold ptr cmpV
  obtain ⟨k1, t1, u1, b1⟩ := x
  obtain ⟨k2, t2, u2, b2⟩ := y
  have x1 := hx.cell (i := 1) rfl
  have x2 := hx.cell (i := 2) rfl
  have y1 := hy.cell (i := 1) rfl
  have y2 := hy.cell (i := 2) rfl
  have hxl := hx.lt
  have hyl := hy.lt
  simp only at x1 x2 y1 y2 hxl hyl ⊢
  clear hx hy
  have HC0 := fun (a b : Int) (w : World) => Go.Proofs.Ytgohlbljdffelaa.Cmp.compare_calls a b w
  have HC := Lib.hid HC0
  have HO0 : ∀ a b : Int, Blk ((w.alloc (.cells #[.int .i64 a, .int .i64 b] 3)).drew) w.heap.size 3 [.int .i64 a, .int .i64 b] := fun a b => (blk_new w [.int .i64 a, .int .i64 b] 3).drew
  have HO := Lib.hid HO0
  clear HC0 HO0
  go_enter Try.func73, Try.ntmps73
  go_upto_region 1 with (fail)
  go_region_held3 (fun w' => w'.cell? ⟨b1, 1, none⟩ = some (.int .i64 t1) ∧ w'.cell? ⟨b1, 2, none⟩ = some (.int .i64 u1) ∧ w'.cell? ⟨b2, 1, none⟩ = some (.int .i64 t2) ∧ w'.cell? ⟨b2, 2, none⟩ = some (.int .i64 u2)) (go_keep)
    (first | (go_at_call 70; refine (HC.out _ _ _).mono ?_; rintro e w' ⟨rfl, rfl⟩) | (go_at_call 69; refine (or_calls _ _ (HO.out _ _)).mono ?_; rintro e w' ⟨rfl, rfl⟩))
  go_wp2
  go_ret
  exact ⟨rfl, rfl⟩
theorem lt_trans' {x y z : It} (h : lt x y = true) (k : lt y z = true) : lt x z = true := by
  rw [lt_iff] at *; omega
theorem ev_cases {L : List (Ev Int)} (hs : Sorted L) : ∀ a ∈ L, ∀ b ∈ L, a = b ∨ ltE a b ∨ ltE b a := by
  induction L with
  | nil => intro a h; cases h
  | cons x l ih =>
    have hx := List.pairwise_cons.1 hs
    intro a ha b hb
    rcases List.mem_cons.1 ha with e1 | ha'
    · rcases List.mem_cons.1 hb with e2 | hb'
      · exact .inl (e1.trans e2.symm)
      · exact .inr (.inl (e1 ▸ hx.1 b hb'))
    · rcases List.mem_cons.1 hb with e2 | hb'
      · exact .inr (.inr (e2 ▸ hx.1 a ha'))
      · exact ih hx.2 a ha' b hb'
theorem step_sorted {α : Type} [Inhabited α] (enc : α → Value) {w : World} {g n : Nat} {os : Array Obj} (d : Array α) : Step (· = g) w (Go.Proofs.sortWorld enc w g 0 n d os) := by
  unfold Go.Proofs.sortWorld
  refine ⟨rfl, rfl, rfl, by simp [Sort.grow, Sort.ahead], fun k hk hne => ?_⟩
  rw [heap_grow_old _ _ (by simpa using hk)]
  have : g ≠ k := fun e => hne e.symm
  simp [putRow, mapBlock, Sort.ahead, Array.getElem?_modify, this]
set_option maxRecDepth 100000 in
theorem sort_calls {w : World} {xs : List It} {blk cap : Nat} {L : List (Ev Int)} (hne : xs ≠ []) (hb : ∀ x ∈ xs, x.blk ≠ blk ∧ ∃ i, Blk w x.blk 76 (icells x i)) (hrow : FSeg w 73 1 (some ⟨blk, 0, none⟩) xs.length cap (xs.map ptr)) (hp : (xs.map proj).Perm L) (hs : Sorted L) (hlen : xs.length ≤ 1000000) :
    Calls Try.prog 79 #[.slice (some ⟨blk, 0, none⟩) xs.length cap, .func (.func 73) #[] #[]] w fun e w' =>
      e = .returned (.tuple #[]) ∧ ∃ ys : List It, ys.map proj = L ∧ (∀ y ∈ ys, y ∈ xs) ∧ ys.length = xs.length ∧ FSeg w' 73 1 (some ⟨blk, 0, none⟩) xs.length cap (ys.map ptr) ∧ Step (· = blk) w w' := by
  obtain ⟨x0, hx0⟩ : ∃ x, x ∈ xs := by
    cases xs with
    | nil => exact absurd rfl hne
    | cons x l => exact ⟨x, List.mem_cons_self ..⟩
  haveI : Inhabited { x : It // x ∈ xs } := ⟨⟨x0, hx0⟩⟩
  let enc : { x : It // x ∈ xs } → Value := fun x => ptr x.1
  let cf : { x : It // x ∈ xs } → { x : It // x ∈ xs } → Int := fun x y => cmpV x.1 y.1
  let d : Array { x : It // x ∈ xs } := xs.attach.toArray
  have hds : d.size = xs.length := by simp [d]
  have hblk : blk < w.heap.size := hrow.lt rfl
  have hdj : ∀ j, (hj : j < xs.length) → d[j]! = ⟨xs[j], List.getElem_mem hj⟩ := fun j hj => by
    rw [getElem!_pos d j (by rw [hds]; exact hj)]
    simp [d]
  have hlt : ∀ x y, ltOf cf x y = lt x.1 y.1 := fun x y => cmpV_lt x.1 y.1
  have hO : SWO (ltOf cf) := by
    refine ⟨fun x => ?_, fun x y z => ?_, fun x y z => ?_⟩
    · rw [hlt, lt_not]; omega
    · rw [hlt, hlt, hlt]; exact lt_trans'
    · rw [hlt, hlt, hlt, lt_not, lt_not, lt_not]; omega
  have hH : Holds enc w blk 0 d := fun j hj => by
    rw [hds] at hj
    refine ⟨?_, FSeg.free hrow _⟩
    rw [Nat.zero_add, hdj j hj]
    exact FSeg.cell hrow (by rw [List.getElem?_map, List.getElem?_eq_getElem hj]; rfl)
  have hcmp : Go.Proofs.CmpLays1 Try.prog 73 #[] enc cf blk 0 d.size w := fun m os dk hsz x y => by
    obtain ⟨h1, i, hi⟩ := hb x.1 x.2
    obtain ⟨h2, j, hj⟩ := hb y.1 y.2
    have hst := step_sorted enc (w := w) (g := blk) (n := m) (os := os) dk
    have := compare_exact x.1 y.1 i j (hi.keep hst h1) (hj.keep hst h2)
    refine this.mono ?_
    rintro e w' ⟨rfl, rfl⟩
    exact ⟨rfl, 1, #[.cells #[.int .i64 (cmpI x.1.tm y.1.tm), .int .i64 (cmpI x.1.turn y.1.turn)] 3], by rw [alloc_eq_grow]; rfl⟩
  have h := Go.Proofs.Any.slices_SortFunc Try.sortInt enc (fun x => rfl) cf hO 73 #[] blk 0 cap d w (enters_of Try.func73 (by kernel_rfl) rfl) hcmp hH hblk (by rw [hds]; omega)
  rw [hds] at h
  refine Calls.mono (show Calls Try.prog 79 _ _ _ from h) ?_
  rintro e w' ⟨he, d', n, os, hpm, hsd, rfl⟩
  obtain ⟨hs1, _, hpe⟩ := hpm
  have hd's : d'.size = xs.length := hs1.trans hds
  have hpe' : d'.toList.Perm d.toList := by
    have e1 : d'.extract 0 xs.length = d' := by rw [← hd's]; simp
    have e2 : d.extract 0 xs.length = d := by rw [← hds]; simp
    rw [e1, e2] at hpe
    exact hpe
  have hyl : (d'.toList.map (·.1)).length = xs.length := by simp [hd's]
  have hpx : (d'.toList.map (·.1)).Perm xs := by
    refine (hpe'.map _).trans ?_
    show (xs.attach.toArray.toList.map (·.1)).Perm xs
    rw [List.toList_toArray, List.attach_map_subtype_val]
  refine ⟨he, d'.toList.map (·.1), ?_, fun y hy => hpx.mem_iff.1 hy, hyl, ?_, step_sorted enc d'⟩
  · refine List.Perm.eq_of_pairwise (le := fun a b => ¬ ltE b a) (fun a b ha hb' h1 h2 => ?_) ?_ ?_ ((hpx.map proj).trans hp)
    · have ha' : a ∈ L := ((hpx.map proj).trans hp).mem_iff.1 ha
      rcases ev_cases hs a ha' b hb' with h | h | h
      · exact h
      · exact absurd h h2
      · exact absurd h h1
    · rw [List.pairwise_map, List.pairwise_map, List.pairwise_iff_getElem]
      intro i j hi hj hij
      have hi' : i < d'.size := by simpa using hi
      have hj' : j < d'.size := by simpa using hj
      have := hsd i j (Nat.zero_le _) hij (by omega)
      rw [hlt, getElem!_pos d' i hi', getElem!_pos d' j hj'] at this
      rw [lt_not] at this
      simp only [Array.getElem_toList]
      intro hl
      apply this
      exact hl
    · exact hs.imp (fun {a b} h k => by unfold ltE at h k; omega)
  · obtain ⟨hl, ⟨h0, _⟩ | ⟨g', cur, e', hg, h3, h4, h5⟩⟩ := hrow
    · cases h0
    obtain rfl : blk = g' := by simpa using e'
    have hw : (Go.Proofs.sortWorld enc w blk 0 n d' os).heap[blk]? = some (.cells (putCells enc 0 d' cur) 73 (0, 0)) := by
      unfold Go.Proofs.sortWorld
      rw [heap_grow_old _ _ (by simpa using hblk)]
      simp [putRow, mapBlock, Sort.ahead, Array.getElem?_modify, hg, onCells]
    refine ⟨by rw [List.length_map, hyl, Nat.mul_one], .inr ⟨blk, _, rfl, hw, h3, by simpa [putCells] using h4, fun j v hj => ?_⟩⟩
    have hj1 : j < xs.length := by
      have := (List.getElem?_eq_some_iff.1 hj).1
      rw [List.length_map, hyl] at this
      exact this
    have hjd : j < d'.size := by omega
    have hjc : j < cur.size := by omega
    rw [putCells, Array.getElem?_mapIdx, Array.getElem?_eq_getElem hjc]
    simp only [Option.map_some]
    rw [if_pos ⟨Nat.zero_le _, by omega⟩, Nat.sub_zero, getElem!_pos d' j hjd]
    rw [List.map_map, List.getElem?_map, Array.getElem?_toList, Array.getElem?_eq_getElem hjd] at hj
    exact hj

theorem collect_calls {w : World} {Bs n0 : Nat} {A : Option Addr} {cap : Nat} {zs : List Nat} (hreach : zs.length ≤ 1000000) (hBs : Bs < w.heap.size) (hn0 : n0 ≤ w.heap.size) (hcc : w.cell? ⟨Bs, 0, none⟩ = some (.slice A zs.length cap)) (hI : Ptrs n0 w A zs) :
    Calls Try.prog 78 #[.func (.func 80) #[] #[.pointer (some ⟨Bs, 0, none⟩)]] w fun e W' => ∃ v, e = .returned v ∧ W'.ownsRow w.heap.size 73 1 v zs.length (zs.map pv) ∧ (v = .slice none 0 0 ↔ zs = []) ∧ Below w.heap.size w W' :=
  callsIn_wide.1 (collect_in Fence.wide 4 trivial trivial trivial rfl (Nat.le_refl _) Bs n0 A cap zs hreach w hBs hn0 hcc hI)
theorem values_calls (a : Option Addr) (len cap : Nat) (w : World) :
    Calls Try.prog 72 #[.slice a len cap] w fun e w' => e = .returned (.func (.func 80) #[] #[.pointer (some ⟨w.heap.size, 0, none⟩)]) ∧ w' = w.alloc (.cells #[.slice a len cap] 70) :=
  callsIn_wide.1 (values_in Fence.wide 4 trivial rfl a len cap w)
set_option maxRecDepth 100000 in
set_option maxHeartbeats 1000000 in
theorem sorted_calls {w : World} {xs : List It} {A : Option Addr} {cap Bs : Nat} {L : List (Ev Int)} (hBs : w.cell? ⟨Bs, 0, none⟩ = some (.slice A xs.length cap)) (hrow : FSeg w 73 1 A xs.length cap (xs.map ptr)) (hb : ∀ x ∈ xs, ∃ i, Blk w x.blk 76 (icells x i)) (hp : (xs.map proj).Perm L) (hs : Sorted L) (hlen : xs.length ≤ 1000000) :
    Calls Try.prog 71 #[.func (.func 80) #[] #[.pointer (some ⟨Bs, 0, none⟩)], .func (.func 73) #[] #[]] w fun e w' =>
      ∃ (B : Option Addr) (cB : Nat) (ys : List It), e = .returned (.slice B xs.length cB) ∧ ys.map proj = L ∧ (∀ y ∈ ys, y ∈ xs) ∧ ys.length = xs.length ∧ FSeg w' 73 1 B xs.length cB (ys.map ptr) ∧ (∀ k, blockOf B = some k → w.heap.size ≤ k) ∧ Step (fun _ => False) w w' := by
  have hzl : (xs.map (·.blk)).length = xs.length := List.length_map ..
  have hptr : (xs.map (·.blk)).map pv = xs.map ptr := by rw [List.map_map]; rfl
  have hI : Ptrs w.heap.size w A (xs.map (·.blk)) := by
    rcases Nat.eq_zero_or_pos xs.length with h0 | h0
    · left
      rw [List.eq_nil_of_length_eq_zero h0]; rfl
    · right
      obtain ⟨g, rfl⟩ := FSeg.isSome hrow h0
      refine ⟨g, 0, rfl, FSeg.lt hrow rfl, fun j hj => ?_⟩
      rw [hzl] at hj
      rw [Nat.zero_add]
      refine FSeg.cell hrow ?_
      rw [List.getElem?_map, List.getElem?_map, List.getElem?_eq_getElem hj]
      rfl
  have hBl := cell_lt' hBs
  have HC := Lib.hid (collect_calls (zs := xs.map (·.blk)) (by rw [hzl]; exact hlen) hBl (Nat.le_refl _) (by rw [hzl]; exact hBs) hI)
  rw [hzl, hptr] at HC
  have HB := Lib.hid hb
  clear hBs hrow hI hb
  by_cases hne : xs = []
  · subst hne
    obtain rfl : L = [] := hp.symm.eq_nil
    have HSN := Lib.hid (fun (w1 : World) => (show Calls Try.prog 79 #[.slice none 0 0, .func (.func 73) #[] #[]] w1 fun e w' => e = .returned (.tuple #[]) ∧ w' = w1 from Go.Proofs.AnyF.slices_SortFunc_none { Try.sortInt with } none 0 (.func (.func 73) #[] #[]) w1))
    have HC2 := Lib.hid (HC.out.mono (R' := fun e w' => e = .returned (.slice none 0 0) ∧ Below w.heap.size w w') (fun e w' ⟨v, he, _, hv, hbl⟩ => ⟨by rw [he, hv.2 rfl], hbl⟩))
    clear HC hzl hptr hp
    go_enter Try.func71, Try.ntmps71
    go_wp2_with (first | (go_at_call 78; refine HC2.out.mono ?_; rintro e1 w1 ⟨rfl, hb1⟩) | (go_at_call 79; refine (HSN.out _).mono ?_; rintro e2 w2 ⟨rfl, rfl⟩))
    go_ret
    exact ⟨none, 0, [], rfl, rfl, fun y hy => (by cases hy), rfl, fseg_nil _ _ _, fun k hk => (by cases hk), Step.of_below hb1⟩
  · have hn0 : xs.length ≠ 0 := fun e => hne (List.eq_nil_of_length_eq_zero e)
    have HC2 := Lib.hid (HC.out.mono (R' := fun e w' => ∃ g cap', e = .returned (.slice (some ⟨g, 0, none⟩) xs.length cap') ∧ w.heap.size ≤ g ∧ FSeg w' 73 1 (some ⟨g, 0, none⟩) xs.length cap' (xs.map ptr) ∧ Step (fun _ => False) w w') (fun e w' ⟨v, he, hown, hv, hbl⟩ => by
      rcases hown with ⟨h1, ⟨h2, h3⟩ | ⟨g, cap', cur, h2, h3, h4, h5, h6, h7, h8⟩⟩
      · exact absurd h3 hn0
      · refine ⟨g, cap', by rw [he, h2], h3, ⟨by rw [List.length_map, Nat.mul_one], .inr ⟨g, cur, rfl, h4, h5, by omega, fun j u hj => ?_⟩⟩, Step.of_below hbl⟩
        have hjl : j < xs.length := by
          have := (List.getElem?_eq_some_iff.1 hj).1
          rwa [List.length_map] at this
        rw [← h8, List.getElem?_take_of_lt (by omega)] at hj
        simpa using hj))
    have HSS := Lib.hid (fun (w1 : World) (g cap' : Nat) (hg : w.heap.size ≤ g) (hr : FSeg w1 73 1 (some ⟨g, 0, none⟩) xs.length cap' (xs.map ptr)) (hst : Step (fun _ => False) w w1) => sort_calls hne (fun x hx => by
      obtain ⟨i, hi⟩ := HB.out x hx
      exact ⟨by have := hi.lt; omega, i, hi.keep hst (fun h => h)⟩) hr hp hs hlen)
    generalize xs.length = n at *
    clear HC hzl hptr
    go_enter Try.func71, Try.ntmps71
    go_wp2_with (first | (go_at_call 78; refine HC2.out.mono ?_; rintro e1 w1 ⟨g, cap', rfl, hg, hr1, hs1⟩) | (go_at_call 79; refine (HSS.out _ g cap' hg hr1 hs1).mono ?_; rintro e2 w2 ⟨rfl, ys, hy1, hy2, hyl, hy3, hs2⟩))
    go_ret
    exact ⟨some ⟨g, 0, none⟩, cap', ys, rfl, hy1, hy2, hyl, hy3, fun k hk => by obtain rfl : g = k := Option.some.inj hk; exact hg, hs1.trans hs2 (fun j hj e => by omega)⟩

theorem i0key : ∃ i, Try.prog.info? 3 = some i ∧ i.zero = some (Value.int IntKind.i64 (0 : Int)) ∧ i.size = 1 ∧ i.bytes = 8 := by
  obtain ⟨i, hi, hp⟩ := Option.map_eq_some_iff.1 (by kernel_rfl : (Try.prog.info? 3).map (fun i => (i.zero, i.size, i.bytes)) = some (some (Value.int IntKind.i64 (0 : Int)), 1, 8))
  simp only [Prod.mk.injEq] at hp
  exact ⟨i, hi, hp⟩
theorem app_key {w : World} {A : Option Addr} {n c b : Nat} {l : List Value} {v : Value} (h : FSeg w 3 1 A n c l) (hv : v.oneCell' = true) (hB : Blk w b 3 [v]) (hb : n + 1 ≤ 1000000) :
    ∃ A' c' w', (Builtin.append_ #[40, 40] 40 #[.slice A n c, .slice (some ⟨b, 0, none⟩) 1 1]).run Try.prog w = .ok (.slice A' (n + 1) c') w' ∧ FSeg w' 3 1 A' (n + 1) c' (l ++ [v]) ∧ Step (fun k => blockOf A = some k) w w' ∧ (blockOf A' = blockOf A ∨ ∃ k, blockOf A' = some k ∧ w.heap.size ≤ k) := by
  obtain ⟨i0, hi0, hz0, hs0, hy0⟩ := i0key
  exact run_app_one 40 3 Try.underlying40 hi0 hz0 rfl hs0 hy0 (by omega) h rfl (fun x hx => by
    obtain rfl : x = v := by simpa using hx
    exact hv) hB hb
set_option maxRecDepth 100000 in
set_option maxHeartbeats 2000000 in
theorem keys_calls {w : World} {a : Nat} {F : Nat → Prop} {L : List (Ev Int)} {t : Nat} (h : AgR w a F L t) (ht : t ≤ 100000) :
    Calls Try.prog 65 #[.pointer (some ⟨a, 0, none⟩)] w fun e w' => ∃ (B : Option Addr) (cB : Nat), e = .returned (.slice B L.length cB) ∧ FSeg w' 3 1 B L.length cB (L.map (fun s => Value.int IntKind.i64 s.key)) ∧ (∀ k, blockOf B = some k → w.heap.size ≤ k) ∧ Step (fun _ => False) w w' := by
  obtain ⟨h1, h2, h3, xs, A, c, M, m, n, f, hx, hp, hFk⟩ := h
  have hxl := hx.lt
  have hLl : xs.length = L.length := by have := hp.length_eq; simpa using this
  have c0 := hx.hm.blk.cell (i := 0) rfl
  have HX := Lib.hid hx
  have HV := Lib.hid (fun w1 => values_calls A xs.length c w1)
  have HSC := Lib.hid (fun (w1 : World) (Bs : Nat) (hBs : w1.cell? ⟨Bs, 0, none⟩ = some (.slice A xs.length c)) (hst : Step (fun _ => False) w w1) => sorted_calls hBs (hx.hm.row.keep hst (fun _ _ h => h)) (fun x hx' => by
    obtain ⟨i, hi⟩ := List.getElem?_of_mem hx'
    exact ⟨i, (hx.hm.itm i x hi).keep hst (fun h => h)⟩) hp h1 (by omega))
  have HIT := Lib.hid (fun x (hx' : x ∈ xs) => (by
    obtain ⟨i, hi⟩ := List.getElem?_of_mem hx'
    exact ⟨i, hx.hm.itm i x hi⟩ : ∃ i, Blk w x.blk 76 (icells x i)))
  rw [hLl] at HV HSC c0 hxl
  clear hx hLl
  go_enter Try.func65, Try.ntmps65
  go_upto_region 2 with (fail)
  have hal : Step (fun _ => False) w (w.alloc (.cells #[.slice A L.length c] 70)) := (Step.refl _ _).alloc _
  have hbc : (w.alloc (.cells #[.slice A L.length c] 70)).cell? ⟨w.heap.size, 0, none⟩ = some (.slice A L.length c) := (blk_new w [.slice A L.length c] 70).cell (i := 0) rfl
  have HSS := Lib.hid (HSC.out _ _ hbc hal)
  have HAL := Lib.hid hal
  clear hbc hal HSC
  obtain ⟨nl, hnl⟩ : ∃ nl, L.length = nl := ⟨_, rfl⟩
  rw [hnl] at HV HSS HAL c0 hxl
  have HNL := Lib.hid hnl
  clear hnl
  go_wp2_with (first | (go_at_call 72; refine (HV.out _).mono ?_; rintro e1 w1 ⟨rfl, rfl⟩) | (go_at_call 71; refine HSS.out.mono ?_; rintro e2 w2 ⟨R, cR, ys, rfl, hy1, hy2, hyl, hR, hRf, hs2⟩))
  have hst2 := HAL.out.same hs2
  have hyL : ys.length = nl := by rw [← HNL.out, ← hy1, List.length_map]
  have hRf' : ∀ k, blockOf R = some k → k < w2.heap.size := fun k hk => FSeg.lt hR hk
  have HR := Lib.hid hR
  have HY := Lib.hid hy1
  have HY2 := Lib.hid hy2
  have HYL := Lib.hid hyL
  have HST2 := Lib.hid hst2
  clear hR hy1 hy2 hyl hyL hst2 hs2 HAL HSS HV c0 hRf
  go_loopw [3, 13] (fun v3 v13 wr => ∃ (i : Nat) (B : Option Addr) (cB : Nat), v13 = .int .i64 (i : Int) ∧ v3 = .slice B i cB ∧ i ≤ nl ∧ FSeg wr 3 1 B i cB ((L.take i).map (fun s => Value.int IntKind.i64 s.key)) ∧ (∀ k, blockOf B = some k → w2.heap.size ≤ k) ∧ Step (fun _ => False) w2 wr) (fun _ v _ => nl - (intOf v).toNat)
  case atStart => exact ⟨0, none, 0, rfl, rfl, Nat.zero_le _, fseg_nil _ _ _, fun k hk => (by cases hk), Step.refl _ _⟩
  case round =>
    obtain ⟨i, B, cB, rfl, rfl, hi, hB, hBf, hst⟩ := hrel
    by_cases hin : i < nl
    · have hin' : ((i : Int) < (nl : Int)) := by omega
      have hil : i < ys.length := by rw [HYL.out]; exact hin
      obtain ⟨gR, rfl⟩ := FSeg.isSome HR.out (by omega)
      have hRr := HR.out.keep hst (fun _ _ h => h)
      have hc : wr.cell? ⟨gR, i, none⟩ = some (.pointer (some ⟨ys[i].blk, 0, none⟩)) := FSeg.cell hRr (by rw [List.getElem?_map, List.getElem?_eq_getElem hil]; rfl)
      obtain ⟨pl, hpl⟩ := HIT.out _ (HY2.out _ (List.getElem_mem hil))
      have hib := (hpl.keep HST2.out (fun h => h)).keep hst (fun h => h)
      have hk0 := hib.cell (i := 0) rfl
      have hTK : Hid ((L.take (i + 1)).map (fun s => Value.int IntKind.i64 s.key) = (L.take i).map (fun s => Value.int IntKind.i64 s.key) ++ [Value.int IntKind.i64 ys[i].key]) := Lib.hid (by
        have e1 : L[i]? = some (proj ys[i]) := by rw [← HY.out, List.getElem?_map, List.getElem?_eq_getElem hil]; rfl
        rw [List.take_add_one, e1, List.map_append]
        rfl)
      clear hRr hpl hib
      generalize ys[i] = y at *
      obtain ⟨yk, yt, yn, yb⟩ := y
      simp only at hc hk0 hTK
      have HB := Lib.hid hB
      clear hB
      go_upto_region 5 with (fail)
      have hal : Step (fun _ => False) wr (wr.alloc (.cells #[Value.int IntKind.i64 yk] 3)) := (Step.refl _ _).alloc _
      obtain ⟨B5, c5, w5, hap, hB6, hs5, hn5⟩ := app_key (v := Value.int IntKind.i64 yk) (HB.out.keep hal (fun _ _ h => h)) rfl (blk_new wr [Value.int IntKind.i64 yk] 3) (by omega)
      rw [← hTK.out] at hB6
      have hzr := hst.size
      have hzl := hal.size
      have HB6 := Lib.hid hB6
      have HST6 := Lib.hid ((hst.same hal).trans hs5 (fun j hj h => by have := hBf j h; omega))
      have hB5f : ∀ k, blockOf B5 = some k → w2.heap.size ≤ k := fun k hk => by
        rcases hn5 with e | ⟨j, e, hj⟩
        · exact hBf k (e ▸ hk)
        · rw [hk] at e
          obtain rfl := Option.some.inj e
          omega
      clear hB6 hal hs5 hn5 HB hTK
      go_wp2_with (at_builtin; refine wpList_app1 (by rfl) (.tmp 17) (.tmp 22) 40 (by rfl) (by rfl) (by rfl) hap ?_)
      go_roundw
      case rel => exact ⟨i + 1, B5, c5, by go_num, rfl, by omega, HB6.out, hB5f, HST6.out⟩
      case measure => simp [intOf]; omega
    · have hin' : ¬ ((i : Int) < (nl : Int)) := by omega
      obtain rfl : i = nl := by omega
      rw [List.take_of_length_le (by rw [HNL.out]; exact Nat.le_refl _)] at hB
      have HB := Lib.hid hB
      have hz2 := HST2.out.size
      clear hB
      go_wp2
      go_ret
      exact ⟨B, cB, by rw [HNL.out]; rfl, by rw [HNL.out]; exact HB.out, fun k hk => by have := hBf k hk; omega, HST2.out.same hst⟩
end Go.Proofs.Ytgohlbljdffelaa.AgInt
