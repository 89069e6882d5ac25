/- rotor: once of any entries; Pick of any entries. Own work of this seat. -/
import Derived.Test.YtlmppdpjjkdoaabRotG
import Derived.Deep.RegionHeld3
import Derived.Deep.QuietTactic
import Derived.BigQuiet
namespace Go.Proofs.Ytlmppdpjjkdoaab.Rot
open Go.RowKit Go.Proofs.Ytlmppdpjjkdoaab.Kit Go.Proofs.Ytlmppdpjjkdoaab.PRotorPlays Go.Proofs.YtlmppdpjjkdoaabW.PrintWords Go.Proofs.YtlmppdpjjkdoaabW.PrintLast Go.Proofs.YtlmppdpjjkdoaabW.PrintMore Go.Maps
set_option linter.unusedVariables false
set_option linter.unusedSimpArgs false


theorem dd_mem (l : List (ByteArray × Int)) : ∀ k, k ≤ l.length → ∀ e ∈ dd l k, e ∈ l
  | 0, _ => by simp [dd]
  | k + 1, h => by
    have ih := dd_mem l k (by omega)
    have hk : k < l.length := by omega
    have hge : l.getD k (⟨#[]⟩, 0) = l[k] := by simp [List.getD_eq_getElem?_getD, hk]
    simp only [dd]
    split
    · exact ih
    · intro e he
      rcases List.mem_append.1 he with he | he
      · exact ih e he
      · rw [List.mem_singleton.1 he, hge]; exact List.getElem_mem hk
theorem dd_mono (l : List (ByteArray × Int)) (k : Nat) : (dd l k).length ≤ (dd l (k + 1)).length := by
  simp only [dd]
  split
  · exact Nat.le_refl _
  · rw [List.length_append]; omega
theorem dd_ne {l : List (ByteArray × Int)} (h : l ≠ []) : dd l l.length ≠ [] := by
  have h1 : 0 < l.length := List.length_pos_iff.2 h
  have : ∀ k, 0 < (dd l (k + 1)).length := fun k => by
    induction k with
    | zero => simp [dd]
    | succ k ih => exact Nat.lt_of_lt_of_le ih (dd_mono l (k + 1))
  obtain ⟨k, hk⟩ : ∃ k, l.length = k + 1 := ⟨l.length - 1, by omega⟩
  intro e
  have := this k
  rw [← hk, e] at this
  exact absurd this (by decide)

set_option maxRecDepth 100000 in
set_option maxHeartbeats 1000000 in
theorem clone_gen {w : World} {A : Option Addr} {c : Nat} {l : List (ByteArray × Int)} (hA : ERow w A l) (hl0 : l ≠ []) (hl : l.length ≤ 1000) :
    Calls Try.prog 48 #[.slice A l.length c] w fun e w' => ∃ A' c', e = .returned (.slice A' l.length c') ∧ EF w' A' l.length c' l ∧ (∀ k, blockOf A' = some k → w.heap.size ≤ k) ∧ Below w.heap.size w w' := by
  obtain ⟨i0, hi0, hp⟩ : ∃ i, Try.prog.info? 67 = some i ∧ (i.zero, i.size, i.bytes) = (some (.agg #[.string ⟨#[]⟩, .int .i64 0]), 2, 24) := by
    exact Option.map_eq_some_iff.1 (by kernel_rfl : (Try.prog.info? 67).map (fun i => (i.zero, i.size, i.bytes)) = some (some (.agg #[.string ⟨#[]⟩, .int .i64 0]), 2, 24))
  simp only [Prod.mk.injEq] at hp
  obtain ⟨hz0, hs0, hy0⟩ := hp
  rcases hA with h0 | ⟨g, o, rfl, hcell⟩
  · exact absurd h0 hl0
  · have hn0 : 0 < l.length := List.length_pos_iff.2 hl0
    have hnil := Lib.run_eql_slice_nil (P := Try.prog) w 74 67 (some ⟨g, o, none⟩) l.length c 0 0 Try.underlying74
    go_enter Try.func48, Try.ntmps48
    have hE0 : FSeg (w.alloc (.cells #[] 67)) 67 2 (some ⟨w.heap.size, 0, none⟩) 0 0 [] := ⟨rfl, .inr ⟨w.heap.size, #[], rfl, heap_alloc_new w _, by omega, by simp, fun j v hj => by simp at hj⟩⟩
    go_wp2_with (at_builtin; refine wpList_append_flat _ rfl (.tmp 5) (.tmp 6) 74 rfl 67 i0 _ 2 24 Try.underlying74 hi0 hz0 rfl hs0 hy0 (by omega) rfl hE0 rfl (ecells_length l) (fun e => by cases e) (ecells_one l) (erow_cells (fun i e hi => by obtain ⟨h1, h2⟩ := hcell i e hi; exact ⟨Lib.cell?_alloc_some _ h1, Lib.cell?_alloc_some _ h2⟩)) (by omega) ?_; intro A2 c2 w2 hE2 hs2 hat2; rw [Nat.zero_add] at hE2)
    go_ret
    have e1 : (w.alloc (.cells #[] 67)).heap.size = w.heap.size + 1 := by show (w.heap.push _).size = _; simp
    refine ⟨A2, c2, rfl, by simpa [EF] using hE2, fun k hk => ?_, ?_⟩
    · rcases hat2 with hat2 | ⟨j, hj, hjl⟩
      · rw [hk] at hat2
        have : k = w.heap.size := Option.some.inj hat2
        omega
      · obtain rfl : j = k := Option.some.inj (hj.symm.trans hk)
        omega
    · exact (((Step.alloc (Step.refl (fun k => w.heap.size ≤ k) w) _).same (hs2.mono (G := fun k => w.heap.size ≤ k) (fun j _ e => by have : w.heap.size = j := Option.some.inj e; omega)))).below (Nat.le_refl _) (fun k h => h)

set_option maxRecDepth 100000 in
set_option maxHeartbeats 1000000 in
theorem once_gen {w : World} {A : Option Addr} {c : Nat} {l : List (ByteArray × Int)} (hA : ERow w A l) (hl0 : l ≠ []) (hsh : Short l) (hl : l.length ≤ 1000) :
    Calls Try.prog 37 #[.slice A l.length c] w fun e w' => ∃ A' c', e = .returned (.slice A' (dd l l.length).length c') ∧ ERow w' A' (dd l l.length) ∧ (∀ k, blockOf A' = some k → w.heap.size ≤ k) ∧ Below w.heap.size w w' := by
  have hmm := @run_makeMap Try.prog
  go_enter Try.func37, Try.ntmps37
  go_upto_region 2 with (fail)
  have e1 : (w.alloc (.map #[] 0)).heap.size = w.heap.size + 1 := by show (w.heap.push _).size = _; simp
  have hv := blk_new (w.alloc (.map #[] 0)) [.map (some w.heap.size)] 91
  rw [e1] at hv
  have hm := (mset_new w).keep (Step.alloc (Step.refl (fun _ => False) _) (.cells #[Value.map (some w.heap.size)] 91)) (fun h => h)
  have hs : Step (fun _ => False) w ((w.alloc (.map #[] 0)).alloc (.cells #[Value.map (some w.heap.size)] 91)) := ((Step.refl _ _).alloc _).alloc _
  have hvl := hv.lt
  have hC := fun w1 (h : Step (fun _ => False) w w1) => clone_gen (c := c) (hA.keep h (fun _ _ h => h)) hl0 hl
  have HC := hC _ hs
  clear hC
  generalize ((w.alloc (Obj.map #[] 0)).alloc (Obj.cells #[Value.map (some w.heap.size)] 91)) = w1 at *
  have hS0 : SetIs w1 w.heap.size 0 l 0 := ⟨_, hm, fun t => by simp [had, dd]⟩
  go_wp2_with (first | (go_at_call 48; refine HC.mono ?_; rintro e2 w2 ⟨A2, c2, rfl, hA2, hf2, hb2⟩) | (go_at_call 47; refine (delete_gen hA2 (fun k hk => by have := hf2 k hk; omega) (hv.keep (Step.of_below (F := fun _ => False) hb2) (fun h => h)) (hS0.keep (Step.of_below (F := fun _ => False) hb2) (fun h => h)) (by omega) hsh (by omega)).mono ?_; rintro e3 w3 ⟨n3, rfl, hE3, hs3⟩))
  have hn3 : (dd l l.length).length = n3 := hE3.len
  subst hn3
  go_ret
  refine ⟨A2, c2, rfl, hE3.row, fun k hk => by have := hf2 k hk; omega, ?_⟩
  have hs4 : Step (fun k => w.heap.size ≤ k) w w3 := ((hs.mono (fun _ _ h => h.elim)).same (Step.of_below hb2)).same (hs3.mono (G := fun k => w.heap.size ≤ k) (fun j _ e => by
    rcases e with e | e
    · rw [e]; exact Nat.le_refl _
    · have := hf2 j e; omega))
  exact hs4.below (Nat.le_refl _) (fun k h => h)

set_option maxRecDepth 100000 in
theorem mint_run {w : World} {b n : Nat} {f : ByteArray → Int} (h : MInt w b n f) {s : ByteArray} (hs : s.size ≤ 1000) : (Instr.lookup 68 (.map (some b)) (.string s) false).run Try.prog w = .ok (.int .i64 (f s)) w := by
  obtain ⟨D, hD, hf⟩ := h
  obtain ⟨c, hrun, hat, _⟩ := hD.lookup_int skeyed Try.underlying68 Try.underlying3 (szero_int _) (skey hs)
  rw [hf s] at hat
  injection hat with hat
  injection hat with _ hat
  rw [hrun, hat]

theorem mint_upd {w : World} {b n : Nat} {f : ByteArray → Int} (h : MInt w b n f) (hn : n ≤ 1000000) {s : ByteArray} (hs : s.size ≤ 1000) {i : Int} (h0 : -9223372036854775808 ≤ i) (h1 : i ≤ 9223372036854775807) :
    ∃ w', (Instr.mapUpdate 68 (.map (some b)) (.string s) (.int .i64 i)).run Try.prog w = .ok () w' ∧ MInt w' b (n + 1) (upd f s i) ∧ Step (· = b) w w' := by
  obtain ⟨D, hD, hf⟩ := h
  obtain ⟨w', hrun, hown, hgr⟩ := hD.update skeyed Try.underlying68 (by unfold maxLen; omega) (skey hs) (plainElem_int Try.underlying3 (WalkArith.wf_i64 ⟨h0, h1⟩))
  refine ⟨w', hrun, ⟨_, hown, fun t => ?_⟩, step_of_grown_some hgr⟩
  by_cases e : t = s
  · subst e
    rw [upd_same, atKey_put_same hD.isMap (show WideAt.IsKeyLit (slit _) from trivial)]
  · rw [upd_other f i e, atKey_put_other (slit_ne e), hf t]

def wt (z : Int) : Int := mx 1 (mn z 65535)
theorem wt_lo (z : Int) : 1 ≤ wt z := by unfold wt mx mn; split <;> split <;> omega
theorem wt_hi (z : Int) : wt z ≤ 65535 := by unfold wt mx mn; split <;> split <;> omega

/-- Where Pick is: the marks, the weights' sum, the best one. -/
structure PS where
  f : ByteArray → Int
  all : Int
  best : ByteArray
def pstep (q : PS) (i : Nat) (e : ByteArray × Int) : PS :=
  ⟨upd q.f e.1 (q.f e.1 + wt e.2), q.all + wt e.2, if i = 0 ∨ q.f e.1 + wt e.2 > upd q.f e.1 (q.f e.1 + wt e.2) q.best then e.1 else q.best⟩
def pks (f : ByteArray → Int) (l : List (ByteArray × Int)) : Nat → PS
  | 0 => ⟨f, 0, ⟨#[]⟩⟩
  | k + 1 => pstep (pks f l k) k (l.getD k (⟨#[]⟩, 0))
/-- Pick's marks behind it, and whom it picks. -/
def pkf (f : ByteArray → Int) (l : List (ByteArray × Int)) : ByteArray → Int :=
  upd (pks f l l.length).f (pks f l l.length).best ((pks f l l.length).f (pks f l l.length).best - (pks f l l.length).all)
def pkn (f : ByteArray → Int) (l : List (ByteArray × Int)) : ByteArray := (pks f l l.length).best

def Bd (B : Int) (f : ByteArray → Int) : Prop := ∀ s, -B ≤ f s ∧ f s ≤ B
theorem pks_bd {f : ByteArray → Int} {B : Int} (hB : Bd B f) (hB0 : 0 ≤ B) (l : List (ByteArray × Int)) (hsh : Short l) : ∀ k, k ≤ l.length → Bd (B + 65535 * k) (pks f l k).f ∧ 0 ≤ (pks f l k).all ∧ (pks f l k).all ≤ 65535 * k ∧ (pks f l k).best.size ≤ 1000
  | 0, _ => ⟨by simpa [pks] using hB, by simp [pks], by simp [pks], by simp [pks, ByteArray.size]⟩
  | k + 1, h => by
    obtain ⟨h1, h2, h3, h4⟩ := pks_bd hB hB0 l hsh k (by omega)
    have hk : k < l.length := by omega
    have hge : l.getD k (⟨#[]⟩, 0) = l[k] := by simp [List.getD_eq_getElem?_getD, hk]
    have hlo := wt_lo (l[k]).2
    have hhi := wt_hi (l[k]).2
    have hf := h1 (l[k]).1
    have hs := hsh l[k] (List.getElem_mem hk)
    simp only [pks, hge, pstep]
    refine ⟨fun s => ?_, by omega, by omega, ?_⟩
    · have := h1 s
      unfold upd
      split <;> omega
    · split
      · exact hs
      · exact h4

set_option maxRecDepth 100000 in
set_option maxHeartbeats 4000000 in
theorem pick_gen {w : World} {p b N : Nat} {f : ByteArray → Int} (h : RAt w p b N f) {A : Option Addr} {c : Nat} {l0 : List (ByteArray × Int)} (hA : ERow w A l0) (hl00 : l0 ≠ []) (hsh0 : Short l0) (hl1000 : l0.length ≤ 1000) (hN : N ≤ 100000) (hB : Bd 1000000000000 f) :
    Calls Try.prog 27 #[.pointer (some ⟨p, 0, none⟩), .slice A l0.length c] w fun e w' => e = .returned (.tuple #[.string (pkn f (dd l0 l0.length)), .bool true]) ∧ RAt w' p b (N + (dd l0 l0.length).length + 1) (pkf f (dd l0 l0.length)) ∧ Step (· = b) w w' := by
  have HO := once_gen (c := c) hA hl00 hsh0 hl1000
  have hl : (dd l0 l0.length).length ≤ 1000 := Nat.le_trans (dd_length _ _) hl1000
  have hsh : Short (dd l0 l0.length) := fun e he => hsh0 e (dd_mem l0 l0.length (Nat.le_refl _) e he)
  have hl0 : dd l0 l0.length ≠ [] := dd_ne hl00
  have hq0 : ((l0.length : Int) == 0) = false := by
    have := List.length_pos_iff.2 hl00
    simp; omega
  have hq1 : ¬ ((l0.length : Int) = 0) := by
    have := List.length_pos_iff.2 hl00
    omega
  generalize dd l0 l0.length = l at *
  have hpl := h.blk.lt
  have hbl := h.map.lt
  go_enter Try.func27, Try.ntmps27
  go_wp2_with (go_at_call 37; refine HO.mono ?_; rintro e2 w2 ⟨A2, c2, rfl, hA2, hf2, hb2⟩)
  go_loopw [6, 7, 13] (fun v6 v7 v13 wr => ∃ (k : Nat), k ≤ l.length ∧ v13 = .int .i64 (k : Int) ∧ v6 = .int .i64 (pks f l k).all ∧ v7 = .string (pks f l k).best ∧ RAt wr p b (N + k) (pks f l k).f ∧ Step (· = b) w2 wr) (fun _ _ v _ => l.length - (intOf v).toNat)
  case atStart => exact ⟨0, by omega, rfl, rfl, rfl, h.keep (Step.of_below (F := fun _ => False) hb2) (fun h => h) (fun h => h), Step.refl _ _⟩
  case round =>
    obtain ⟨k, hk, rfl, rfl, rfl, hR, hS⟩ := hrel
    obtain ⟨hbd, ha0, ha1, hbs⟩ := pks_bd hB (by omega) l hsh k hk
    by_cases hlt : k < l.length
    · have hlt' : (k : Int) < (l.length : Int) := by omega
      have hA3 := hA2.keep hS (fun j hj e => by have := hf2 j hj; have e' : j = b := e; omega)
      rcases hA3 with h0 | ⟨ga, o, rfl, hcell⟩
      · exact absurd h0 hl0
      · obtain ⟨h1, h2⟩ := hcell k l[k] (List.getElem?_eq_getElem hlt)
        have hs := hsh l[k] (List.getElem_mem hlt)
        have hge : l.getD k (⟨#[]⟩, 0) = l[k] := by simp [List.getD_eq_getElem?_getD, hlt]
        have hnx : pks f l (k + 1) = pstep (pks f l k) k l[k] := by rw [← hge]; rfl
        have HNX := Lib.hid hnx
        clear hnx hge
        generalize hle : l[k] = e at *
        generalize pks f l k = q at *
        obtain ⟨s, z⟩ := e
        obtain ⟨fq, al, bs⟩ := q
        have hlo := wt_lo z
        have hhi := wt_hi z
        have hfs : -(1000000000000 + 65535 * (k : Int)) ≤ fq s ∧ fq s ≤ 1000000000000 + 65535 * (k : Int) := hbd s
        have hal : 0 ≤ al ∧ al ≤ 65535 * (k : Int) := ⟨ha0, ha1⟩
        have hbsz : bs.size ≤ 1000 := hbs
        have hw : rotor_Entry_weight.f s z = some (wt z) := rfl
        generalize hW : wt z = W0 at *
        go_upto_region 5 with (fail)
        refine alloc_next (cs := [.string s, .int .i64 z]) ?_
        intro w3 hE hs3
        have hR3 := hR.keep hs3 (fun h => h) (fun h => h)
        have hS3 := hS.same (hs3.mono (fun _ _ h => h.elim))
        have hpe := hR.blk.lt
        have hbe := hR.map.lt
        generalize wr.heap.size = eb at *
        clear hR hS hs3 h1 h2
        have hebb : eb ≠ b := by omega
        have Hmk : ∀ W, Step (· = b) w3 W → Step (· = b) w3 W ∧ W.cell? ⟨p, 0, none⟩ = some (.map (some b)) ∧ W.cell? ⟨eb, 0, none⟩ = some (.string s) ∧ W.cell? ⟨eb, 1, none⟩ = some (.int .i64 z) := fun W h => ⟨h, (hR3.blk.keep h hR3.ne).cell (i := 0) rfl, (hE.keep h hebb).cell (i := 0) rfl, (hE.keep h hebb).cell (i := 1) rfl⟩
        have hwr : IntKind.i64.wrap (fq s + W0) = fq s + W0 := by rw [IntKind.wrap_i64]; omega
        have HMK := Lib.hid Hmk
        clear Hmk
        have hst0 : Step (· = b) w3 w3 := Step.refl _ _
        have hstF : Step (fun _ => False) w3 w3.drew := (Step.refl _ _).drew
        have hl0 := mint_run (hR3.map.keep hstF (fun h => h)) hs
        go_region_held3 (fun W => Step (· = b) w3 W ∧ W.cell? ⟨p, 0, none⟩ = some (.map (some b)) ∧ W.cell? ⟨eb, 0, none⟩ = some (.string s) ∧ W.cell? ⟨eb, 1, none⟩ = some (.int .i64 z))
          ((refine HMK.out _ ?_; first | exact Step.drew hst0 | exact Step.then_below (Step.drew hst0) hb4 | exact Step.same (Step.then_below (Step.drew hst0) hb4) hs5))
          (first | (go_at_call 38; refine (rotor_Entry_weight.calls _ _ _ _ hw).mono ?_; rintro e4 w4 ⟨rfl, hb4⟩; have hl4 := mint_run (hR3.map.keep (hstF.then_below hb4) (fun h => h)) hs; obtain ⟨w5, hrun5, hm5, hs5⟩ := mint_upd (i := fq s + W0) (hR3.map.keep (hstF.then_below hb4) (fun h => h)) (by omega) hs (by omega) (by omega)))
        all_goals
          have hst5 : Step (· = b) w3 w5 := ((hst0.drew).then_below hb4).same hs5
          have hE5 := hE.keep hst5 (fun e => by have e' : eb = b := e; omega)
          have hP5 := hR3.blk.keep hst5 hR3.ne
          have hpb := hR3.ne
          have hS5 := hS3.same hst5
          clear HMK hst0 hb4 hs5 hrun5 hst5 hE hR3 hS3 hwr hl0 hl4 hstF
          have x0 := hE5.cell (i := 0) rfl
          have x1 := hE5.cell (i := 1) rfl
          have hwr : wrap64 (al + W0) = al + W0 := by unfold wrap64; omega
          go_upto_region 7 with (go_at_call 38; refine (rotor_Entry_weight.calls _ _ _ _ hw).mono ?_; rintro e6 w6 ⟨rfl, hb6⟩)
          have hst6 : Step (fun _ => False) w5 w6 := Step.of_below hb6
          have hE6 := hE5.keep hst6 (fun h => h)
          have hP6 := hP5.keep hst6 (fun h => h)
          have hm6 := hm5.keep hst6 (fun h => h)
          have hS6 := hS5.same (hst6.mono (fun _ _ h => h.elim))
          clear hE5 hP5 hm5 hS5 hst6 hb6 x0 x1
          have e1 := upd_same fq s (fq s + W0)
          have hl1 : ∀ W, Step (fun _ => False) w6 W → (Instr.lookup 68 (.map (some b)) (.string s) false).run Try.prog W = .ok (.int .i64 (fq s + W0)) W := fun W h => by
            have := mint_run (hm6.keep h (fun h => h)) hs
            rwa [e1] at this
          have hl2 : ∀ W, Step (fun _ => False) w6 W → (Instr.lookup 68 (.map (some b)) (.string bs) false).run Try.prog W = .ok (.int .i64 (upd fq s (fq s + W0) bs)) W := fun W h => mint_run (hm6.keep h (fun h => h)) hbsz
          have hnx := HNX.out
          simp only [pstep, hW] at hnx
          have HN2 := Lib.hid hnx
          clear hnx HNX e1
          generalize hfb : upd fq s (fq s + W0) bs = fb at *
          have Hmk : ∀ W, Step (fun _ => False) w6 W → Step (fun _ => False) w6 W ∧ W.cell? ⟨p, 0, none⟩ = some (.map (some b)) ∧ W.cell? ⟨eb, 0, none⟩ = some (.string s) ∧ (Instr.lookup 68 (.map (some b)) (.string s) false).run Try.prog W = .ok (.int .i64 (fq s + W0)) W ∧ (Instr.lookup 68 (.map (some b)) (.string bs) false).run Try.prog W = .ok (.int .i64 fb) W := fun W h => ⟨h, (hP6.keep h (fun h => h)).cell (i := 0) rfl, (hE6.keep h (fun h => h)).cell (i := 0) rfl, hl1 W h, hl2 W h⟩
          have HMK := Lib.hid Hmk
          clear Hmk hl1 hl2
          have hst0 : Step (fun _ => False) w6 w6 := Step.refl _ _
          have hR6 : RAt w6 p b (N + (k + 1)) (upd fq s (fq s + W0)) := ⟨hP6, by rw [← Nat.add_assoc]; exact hm6, hpb⟩
          by_cases hk0 : k = 0
          · have hk0b : ((k : Int) == 0) = true := by simp [hk0]
            have x0 := hE6.cell (i := 0) rfl
            have x0' : ∀ n, (w6.drewN n).cell? ⟨eb, 0, none⟩ = some (.string s) := fun n => x0
            go_quiet (fail)
            go_wp2
            exact ⟨⟨k + 1, by omega, by go_num, by rw [HN2.out], by rw [HN2.out, if_pos (Or.inl hk0)], by rw [HN2.out]; exact hR6.keep (hst0.drewN _) (fun h => h) (fun h => h), hS6.same ((Step.refl _ _).drewN _)⟩, by simp [intOf]; omega⟩
          · have hk0b : ((k : Int) == 0) = false := by simp [hk0]
            by_cases hgt : fq s + W0 > fb
            · go_region_held3 (fun W => Step (fun _ => False) w6 W ∧ W.cell? ⟨p, 0, none⟩ = some (.map (some b)) ∧ W.cell? ⟨eb, 0, none⟩ = some (.string s) ∧ (Instr.lookup 68 (.map (some b)) (.string s) false).run Try.prog W = .ok (.int .i64 (fq s + W0)) W ∧ (Instr.lookup 68 (.map (some b)) (.string bs) false).run Try.prog W = .ok (.int .i64 fb) W)
                ((refine HMK.out _ ?_; first | exact Step.drew hst0))
                (fail)
              all_goals
                have x0 := hE6.cell (i := 0) rfl
                have x0' : w6.drew.cell? ⟨eb, 0, none⟩ = some (.string s) := x0
                go_wp2
                exact ⟨⟨k + 1, by omega, by go_num, by rw [HN2.out], by rw [HN2.out, if_pos (Or.inr hgt)], by rw [HN2.out]; exact hR6.keep hst0.drew (fun h => h) (fun h => h), hS6.same (Step.refl _ _).drew⟩, by simp [intOf]; omega⟩
            · go_region_held3 (fun W => Step (fun _ => False) w6 W ∧ W.cell? ⟨p, 0, none⟩ = some (.map (some b)) ∧ W.cell? ⟨eb, 0, none⟩ = some (.string s) ∧ (Instr.lookup 68 (.map (some b)) (.string s) false).run Try.prog W = .ok (.int .i64 (fq s + W0)) W ∧ (Instr.lookup 68 (.map (some b)) (.string bs) false).run Try.prog W = .ok (.int .i64 fb) W)
                ((refine HMK.out _ ?_; first | exact Step.drew hst0))
                (fail)
              all_goals
                go_wp2
                exact ⟨⟨k + 1, by omega, by go_num, by rw [HN2.out], by rw [HN2.out, if_neg (fun h => h.elim hk0 hgt)], by rw [HN2.out]; exact hR6.keep hst0.drew (fun h => h) (fun h => h), hS6.same (Step.refl _ _).drew⟩, by simp [intOf]; omega⟩
    · obtain rfl : k = l.length := by omega
      have hl1 : 0 < l.length := List.length_pos_iff.2 hl0
      generalize hq : pks f l l.length = q at *
      obtain ⟨fq, al, bs⟩ := q
      have hn : pkn f l = bs := by unfold pkn; rw [hq]
      have hf : pkf f l = upd fq bs (fq bs - al) := by unfold pkf; rw [hq]
      have HNF := Lib.hid (And.intro hn hf)
      clear hn hf hq
      have hfs : -(1000000000000 + 65535 * (l.length : Int)) ≤ fq bs ∧ fq bs ≤ 1000000000000 + 65535 * (l.length : Int) := hbd bs
      have hal : 0 ≤ al ∧ al ≤ 65535 * (l.length : Int) := ⟨ha0, ha1⟩
      have hbsz : bs.size ≤ 1000 := hbs
      have hm6 : MInt wr b (N + l.length) fq := hR.map
      have hwr : wrap64 (fq bs - al) = fq bs - al := by unfold wrap64; omega
      have c0 := hR.blk.cell (i := 0) rfl
      go_wp2_with (first | (at_lookup; refine wpList_mint_look rfl _ _ rfl hm6 hbsz rfl rfl ?_) | (at_mapUpdate; refine wpList_mint_put (i := fq bs - al) rfl _ _ _ rfl hm6 (by omega) hbsz (by omega) (by omega) rfl rfl rfl ?_; intro w5 hm5 hs5))
      go_ret2
      rw [HNF.out.1, HNF.out.2]
      exact ⟨rfl, ⟨hR.blk.keep hs5 hR.ne, hm5, hR.ne⟩, ((Step.of_below hb2).same hS).same hs5⟩
end Go.Proofs.Ytlmppdpjjkdoaab.Rot
