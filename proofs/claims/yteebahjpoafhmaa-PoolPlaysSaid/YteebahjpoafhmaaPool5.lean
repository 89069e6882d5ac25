/- pool: Busy, Get, Drained. Own work of this seat. -/
import Derived.Test.YteebahjpoafhmaaPool0
import Derived.Laws.ResultCell
import Derived.Laws.Rows
namespace Go.Proofs.Yteebahjpoafhmaa.Pool
open Go.RowKit Go.Proofs.Yteebahjpoafhmaa.Kit Go.Proofs.Yteebahjpoafhmaa.PPoolPlays Go.Proofs.YteebahjpoafhmaaW.PrintWords Go.Proofs.YteebahjpoafhmaaW.PrintLast Go.Proofs.YteebahjpoafhmaaW.PrintMore
set_option linter.unusedVariables false
set_option linter.unusedSimpArgs false

set_option maxRecDepth 100000 in
set_option maxHeartbeats 1000000 in
theorem busy_calls {w : World} {p : Nat} {A : Option Addr} {c : Nat} {l : List S38} (h : PAt w p A c l) (hmax : l.length ≤ 1024) (hb : ∀ x ∈ l, 0 ≤ x.f4 ∧ x.f4 ≤ 65535) :
    Calls Try.prog 14 #[.pointer (some ⟨p, 0, none⟩)] w fun e w' => e = .returned (.int .i64 (bsum l)) ∧ Step (fun _ => False) w w' := by
  obtain ⟨r, hr0⟩ : ∃ r, bsum l = r := ⟨_, rfl⟩
  rw [hr0]
  have hr := Lib.hid hr0
  clear hr0
  have hbd : ∀ i, 0 ≤ bsum (l.take i) ∧ bsum (l.take i) ≤ 67107840 := fun i => by
    have h1 := bsum_le (l.take i) (fun x hx => hb x (List.mem_of_mem_take hx))
    have h2 : (l.take i).length ≤ 1024 := by rw [List.length_take]; omega
    omega
  have hbd := Lib.hid hbd
  have hb := Lib.hid hb
  have c0 := h.blk.cell (i := 0) rfl
  obtain ⟨n, hn⟩ : ∃ n, l.length = n := ⟨_, rfl⟩
  have hseg := h.seg
  rw [hn] at hseg c0 hmax
  go_enter Try.func14, Try.ntmps14
  go_wp2
  go_loopw [3, 11] (fun v3 v11 wr => ∃ (i : Nat), i ≤ n ∧ v11 = .int .i64 (i : Int) ∧ v3 = .int .i64 (bsum (l.take i)) ∧ Step (fun _ => False) w wr) (fun _ v _ => n - (intOf v).toNat)
  case atStart => exact ⟨0, by omega, rfl, rfl, Step.refl _ _⟩
  case round =>
    obtain ⟨i, hi, rfl, rfl, hS⟩ := hrel
    by_cases hlt : i < n
    · have hlt' : (i : Int) < (n : Int) := by omega
      have hil : i < l.length := by omega
      have hq := hseg.keep hS (fun _ _ h => h)
      obtain ⟨g, rfl⟩ := hq.one hlt
      obtain ⟨c0, c1, c2, c3, c4⟩ := hq.cells (List.getElem?_eq_getElem hil)
      have hs1 := bsum_take l i _ (List.getElem?_eq_getElem hil)
      have hx := hb.out l[i] (List.getElem_mem hil)
      have hbi := hbd.out i
      generalize l[i] = x at *
      obtain ⟨x0, x1, x2, x3, x4⟩ := x
      generalize bsum (l.take i) = S0 at *
      have hs2' := Lib.hid hs1
      clear hs1
      have hx : 0 ≤ x4 ∧ x4 ≤ 65535 := hx
      have hw : wrap64 (S0 + x4) = S0 + x4 := by unfold wrap64; omega
      clear hq hr hbd hb
      go_upto_region 5 with (fail)
      refine alloc_next (cs := [.string x0, .int .i64 x1, .int .i64 x2, .int .i64 x3, .int .i64 x4]) ?_
      intro w2 hE hs2
      have e4 := hE.cell (i := 4) rfl
      generalize wr.heap.size = eb at *
      go_wp2
      exact ⟨⟨i + 1, by omega, by go_num, by rw [hs2'.out], hS.same hs2⟩, by simp [intOf]; omega⟩
    · obtain rfl : i = n := by omega
      have he : bsum (l.take i) = r := by rw [List.take_of_length_le (by omega)]; exact hr.out
      rw [he]
      clear hr hbd hb he
      go_wp2
      go_ret
      exact ⟨rfl, hS⟩

/-- The one of that name. -/
def getB (l : List S38) (s : ByteArray) : S38 × Bool := match l.find? (named s) with
  | some x => (x, true)
  | none => (⟨⟨#[]⟩, 0, 0, 0, 0⟩, false)
theorem at_cases (l : List S38) (s : ByteArray) : (atv l s = -1 ∧ l.find? (named s) = none) ∨ ∃ (i : Nat) (x : S38), l[i]? = some x ∧ atv l s = (i : Int) ∧ l.find? (named s) = some x ∧ x.f0 = s := by
  rcases ix_cases (named s) l with ⟨h1, h2⟩ | ⟨i, hi, h1, h2, h3⟩
  · exact .inl ⟨h1, List.find?_eq_none.2 (fun x hx => by rw [h2 x hx]; simp)⟩
  · refine .inr ⟨i, l[i], List.getElem?_eq_getElem hi, h1, ?_, of_decide_eq_true h2⟩
    rw [List.find?_eq_some_iff_getElem]
    exact ⟨h2, i, hi, rfl, fun j hj => by rw [h3 j hj]; rfl⟩

/-- The end of a function whose results are a cell of a struct and a value. -/
theorem post_cell_tmp {P : Program} {fn : Func} {R : Ending → World → Prop} {p u : Tmp} {ty : TypeId} (h : fn.results = #[.cell p ty, .tmp u]) {a : Act} {w : World} {g : Nat} {T : TypeId} {cs : List Value} {d : TypeDesc} {v : Value} (hp : a.tmps.getD p undef = .pointer (some ⟨g, 0, none⟩)) (hE : Blk w g T cs)
    (hu : P.underlying ty = some d) (hd : (match d with | .struct _ | .array _ _ => true | _ => false) = true) (hi : (P.info? ty).map (·.size) = some cs.length) (hv : a.tmps.getD u undef = v) (hdef : a.defers = []) (hR : R (.returned (.tuple #[.agg cs.toArray, v])) w) : bodyPost P fn R .ret a w := by
  refine bodyPost_ret ?_ hdef hR
  rw [results_cell_tmp h, hp, hv]
  have hr := run_loadVar_row (P := P) w g T ty cs.toArray (0, 0) d hE hu hd (by simpa using hi)
  simp [asAddr, hr]

set_option maxRecDepth 100000 in
set_option maxHeartbeats 1000000 in
theorem get_calls {w : World} {p : Nat} {A : Option Addr} {c : Nat} {l : List S38} (h : PAt w p A c l) (hmax : l.length ≤ 1000000) (s : ByteArray) :
    Calls Try.prog 19 #[.pointer (some ⟨p, 0, none⟩), .string s] w fun e w' => e = .returned (.tuple #[.agg (bc (getB l s).1).toArray, .bool (getB l s).2]) ∧ Step (fun _ => False) w w' := by
  unfold getB
  have HA0 := fun w1 (hs : Step (fun _ => False) w w1) => at_calls (h.still hs) hmax s
  rcases at_cases l s with ⟨h1, h2⟩ | ⟨i, x, hi, h1, h2, h3⟩
  · rw [h2]
    rw [h1] at HA0
    clear h1 h2
    have HA := Lib.hid HA0
    clear HA0
    go_enter Try.func19, Try.ntmps19
    go_upto_region 1 with (fail)
    refine alloc_next (cs := [.string ⟨#[]⟩, .int .i64 0, .int .i64 0, .int .i64 0, .int .i64 0]) ?_
    intro w1 hE hs1
    generalize hgb : w.heap.size = g at *
    go_upto_region 4 with (go_at_call 26; refine (HA.out _ hs1).mono ?_; rintro e2 w2 ⟨rfl, hs2⟩)
    have hE2 := hE.keep hs2 (fun h => h)
    go_wp2_with (first | (refine wpList_store_blk rfl 38 (.tmp 4) (.tmp 19) rfl hE2 (vs := bc ⟨⟨#[]⟩, 0, 0, 0, 0⟩) rfl rfl (by kernel_rfl) rfl (fun v hv => bcells_one [⟨⟨#[]⟩, 0, 0, 0, 0⟩] v (by simpa [bcells] using hv)) ?_; intro w3 hE3 hs3))
    exact post_cell_tmp (cs := bc ⟨⟨#[]⟩, 0, 0, 0, 0⟩) (v := .bool false) rfl rfl hE3 Try.underlying38 rfl (by kernel_rfl) rfl rfl ⟨rfl, (hs1.same hs2).trans hs3 (fun j hj e => by omega)⟩
  · rw [h2]
    rw [h1] at HA0
    have hil : i < l.length := (List.getElem?_eq_some_iff.1 hi).1
    clear h1 h2
    have HA := Lib.hid HA0
    clear HA0
    have hpi : ((i : Int) ≥ 0) = True := eq_true (by omega)
    go_enter Try.func19, Try.ntmps19
    go_upto_region 1 with (fail)
    refine alloc_next (cs := [.string ⟨#[]⟩, .int .i64 0, .int .i64 0, .int .i64 0, .int .i64 0]) ?_
    intro w1 hE hs1
    generalize hgb : w.heap.size = g at *
    go_upto_region 3 with (go_at_call 26; refine (HA.out _ hs1).mono ?_; rintro e2 w2 ⟨rfl, hs2⟩)
    have hE2 := hE.keep hs2 (fun h => h)
    have h2 := h.still (hs1.same hs2)
    have c0 := h2.blk.cell (i := 0) rfl
    obtain ⟨ga, rfl⟩ := h2.seg.one hil
    obtain ⟨d0, d1, d2, d3, d4⟩ := h2.seg.cells hi
    obtain ⟨x0, x1, x2, x3, x4⟩ := x
    have f0 := hE2.free 0
    have f1 := hE2.free 1
    have f2 := hE2.free 2
    have f3 := hE2.free 3
    have f4 := hE2.free 4
    have e0 := hE2.cell (i := 0) rfl
    have e1 := hE2.cell (i := 1) rfl
    have e2 := hE2.cell (i := 2) rfl
    have e3 := hE2.cell (i := 3) rfl
    have e4 := hE2.cell (i := 4) rfl
    have hlt' : (i : Int) < (l.length : Int) := by omega
    clear hi h3 h
    generalize l.length = n at *
    go_wp2
    have hst : Step (· = g) w2 (((((w2.setCell ⟨g, 0, none⟩ (.string x0)).setCell ⟨g, 1, none⟩ (.int .i64 x1)).setCell ⟨g, 2, none⟩ (.int .i64 x2)).setCell ⟨g, 3, none⟩ (.int .i64 x3)).setCell ⟨g, 4, none⟩ (.int .i64 x4)) :=
      ((((step_put w2 g 0 _).same (step_put _ g 1 _)).same (step_put _ g 2 _)).same (step_put _ g 3 _)).same (step_put _ g 4 _)
    have hE3 := ((((hE2.set 0 (.string x0)).set 1 (.int .i64 x1)).set 2 (.int .i64 x2)).set 3 (.int .i64 x3)).set 4 (.int .i64 x4)
    exact post_cell_tmp (cs := bc ⟨x0, x1, x2, x3, x4⟩) (v := .bool true) rfl rfl hE3 Try.underlying38 rfl (by kernel_rfl) rfl rfl ⟨rfl, (hs1.same hs2).trans hst (fun j hj e => by omega)⟩

set_option maxRecDepth 100000 in
set_option maxHeartbeats 1000000 in
theorem drained_calls {w : World} {p : Nat} {A : Option Addr} {c : Nat} {l : List S38} (h : PAt w p A c l) (hmax : l.length ≤ 1000000) (s : ByteArray) :
    Calls Try.prog 17 #[.pointer (some ⟨p, 0, none⟩), .string s] w fun e w' => e = .returned (.bool ((getB l s).2 && (decide ((getB l s).1.f3 = 1) && decide ((getB l s).1.f4 = 0)))) ∧ Step (fun _ => False) w w' := by
  have HG0 := fun w1 (hs : Step (fun _ => False) w w1) => get_calls (h.still hs) hmax s
  generalize getB l s = r at *
  obtain ⟨⟨x0, x1, x2, x3, x4⟩, b⟩ := r
  simp only [bc] at HG0
  have HG := Lib.hid HG0
  clear HG0 h
  have h3 : (x3 == 1) = decide (x3 = 1) := rfl
  have h4 : (x4 == 0) = decide (x4 = 0) := rfl
  go_enter Try.func17, Try.ntmps17
  go_upto_region 2 with (go_at_call 19; refine (HG.out _ (Step.refl _ _)).mono ?_; rintro e2 w2 ⟨rfl, hs2⟩)
  refine alloc_next (cs := [.string x0, .int .i64 x1, .int .i64 x2, .int .i64 x3, .int .i64 x4]) ?_
  intro w3 hE hs3
  have e3 := hE.cell (i := 3) rfl
  have e4 := hE.cell (i := 4) rfl
  generalize w2.heap.size = g at *
  cases b <;> by_cases q3 : x3 = 1 <;> by_cases q4 : x4 = 0 <;> (try subst q3) <;> (try subst q4) <;> simp only [*, decide_true, decide_false] at h3 h4
  all_goals go_wp2
  all_goals go_ret
  all_goals exact ⟨by simp [*], hs2.same hs3⟩
end Go.Proofs.Yteebahjpoafhmaa.Pool
