/- rotor's law: Own, and the reference's Once. Own work of this seat. -/
import Derived.Test.YtlmppdpjjkdoaabRotJ
namespace Go.Proofs.Ytlmppdpjjkdoaab.Rot
open Go.RowKit Go.Proofs.Ytlmppdpjjkdoaab.Kit Go.Proofs.Ytlmppdpjjkdoaab.PRotorPlays Go.Proofs.YtlmppdpjjkdoaabW.PrintWords Go.Proofs.YtlmppdpjjkdoaabW.PrintLast Go.Proofs.YtlmppdpjjkdoaabW.PrintMore Go.Maps
set_option linter.unusedVariables false
set_option linter.unusedSimpArgs false

theorem bytes_ne {t s : ByteArray} (h : t ≠ s) : (t.toList == s.toList) = false := by
  rw [← beq_toListBytes]
  cases t with | mk a => cases s with | mk b =>
    have hab : a ≠ b := fun e => h (by rw [e])
    show (a == b) = false
    exact beq_eq_false_iff_ne.2 hab
theorem blk_src {W : World} {q : Nat} {T : TypeId} {r : List (ByteArray × Int)} (h : Blk W q T (ecells r)) : ∀ (j : Nat) (v : Value), (ecells r)[j]? = some v → W.cell? ((⟨q, 0, none⟩ : Addr).add j) = some v := fun j v hj => by
  rw [addr_add, Nat.zero_add]; exact h.cell hj
theorem ent_info : ∃ i, Try.prog.info? 67 = some i ∧ i.zero = some (.agg #[.string ⟨#[]⟩, .int .i64 0]) ∧ i.size = 2 ∧ i.bytes = 24 := by
  obtain ⟨i, h, hp⟩ := Option.map_eq_some_iff.1 (by kernel_rfl : (Try.prog.info? 67).map (fun i => (i.zero, i.size, i.bytes)) = some (some (.agg #[.string ⟨#[]⟩, .int .i64 0]), 2, 24))
  simp only [Prod.mk.injEq] at hp
  exact ⟨i, h, hp⟩
theorem rent_info : ∃ i, Try.prog.info? 45 = some i ∧ i.zero = some (.agg #[.string ⟨#[]⟩, .int .i64 0]) ∧ i.size = 2 ∧ i.bytes = 24 := by
  obtain ⟨i, h, hp⟩ := Option.map_eq_some_iff.1 (by kernel_rfl : (Try.prog.info? 45).map (fun i => (i.zero, i.size, i.bytes)) = some (some (.agg #[.string ⟨#[]⟩, .int .i64 0]), 2, 24))
  simp only [Prod.mk.injEq] at hp
  exact ⟨i, h, hp⟩

set_option maxRecDepth 100000 in
set_option maxHeartbeats 1000000 in
theorem own_calls {w : World} {A : Option Addr} {c : Nat} {l : List (ByteArray × Int)} (hA : ERow w A l) (hl : l.length ≤ 1000) :
    Calls Try.prog 31 #[.slice A l.length c] w fun e w' => ∃ A' c', e = .returned (.slice A' l.length c') ∧ ERow w' A' l ∧ (∀ k, blockOf A' = some k → w.heap.size ≤ k) ∧ Below w.heap.size w w' := by
  obtain ⟨i0, hi0, hz0, hs0, hy0⟩ := ent_info
  go_enter Try.func31, Try.ntmps31
  go_wp2
  go_loopw [3, 8] (fun v3 v8 wr => ∃ (k : Nat) (B : Option Addr) (cB : Nat), k ≤ l.length ∧ v8 = .int .i64 (k : Int) ∧ v3 = .slice B k cB ∧ ESeg wr 67 B k cB (l.take k) ∧ (∀ j, blockOf B = some j → w.heap.size ≤ j) ∧ Step (fun _ => False) w wr) (fun _ v _ => l.length - (intOf v).toNat)
  case atStart => exact ⟨0, none, 0, by omega, rfl, rfl, eseg_nil _ _, (by intro j hj; cases hj), Step.refl _ _⟩
  case round =>
    obtain ⟨k, B, cB, hk, rfl, rfl, hO, hfar, hS⟩ := hrel
    by_cases hlt : k < l.length
    · have hlt' : (k : Int) < (l.length : Int) := by omega
      have hA3 := hA.keep hS (fun _ _ h => h)
      rcases hA3 with h0 | ⟨ga, o, rfl, hcell⟩
      · subst h0; simp at hlt
      · obtain ⟨h1, h2⟩ := hcell k l[k] (List.getElem?_eq_getElem hlt)
        have htk : l.take (k + 1) = l.take k ++ [l[k]] := by rw [List.take_add_one, List.getElem?_eq_getElem hlt]; rfl
        generalize hle : l[k] = e at *
        obtain ⟨s, z⟩ := e
        go_upto_region 5 with (fail)
        refine alloc_next (cs := [.string s, .int .i64 z]) ?_
        intro w3 hE hs3
        have hS3 := hS.same hs3
        have hO3 := (hO.keep hs3 (fun _ _ h => h)).keep (Step.alloc (Step.refl (fun _ => False) w3) (.cells #[Value.string s, .int .i64 z] 67)) (fun _ _ h => h)
        have x0 := hE.cell (i := 0) rfl
        have x1 := hE.cell (i := 1) rfl
        have hB2 := blk_new w3 (ecells [(s, z)]) 67
        generalize wr.heap.size = eb at *
        clear hO hs3 h1 h2 hcell
        go_wp2_with (at_builtin; refine wpList_append_ent _ rfl (.tmp 12) (.tmp 14) 74 rfl 67 i0 _ Try.underlying74 hi0 hz0 rfl hs0 hy0 rfl hO3 rfl (r := [(s, z)]) rfl (by omega) (blk_src hB2) (by omega) ?_; intro A2 c2 w4 hO4 hs4 hat4)
        have hS4 := hS3.same (Step.alloc (Step.refl (fun _ => False) w3) (.cells #[Value.string s, .int .i64 z] 67))
        have hS5 := hS4.trans hs4 (fun j hj hg => absurd (hfar j hg) (Nat.not_le.2 hj))
        refine ⟨⟨k + 1, A2, c2, by omega, by go_num, rfl, by rw [htk]; exact hO4, fun j hj => ?_, hS5⟩, by simp [intOf]; omega⟩
        rcases hat4 with hat4 | ⟨i, hi, hil⟩
        · exact hfar j (hat4 ▸ hj)
        · obtain rfl : i = j := Option.some.inj (hi.symm.trans hj)
          exact Nat.le_trans hS4.size hil
    · obtain rfl : k = l.length := by omega
      go_wp2
      go_ret
      rw [List.take_length] at hO
      exact ⟨B, cB, rfl, hO.row, hfar, hS.below (Nat.le_refl _) (fun _ h => h.elim)⟩

theorem dd_nodup (l : List (ByteArray × Int)) : ∀ k, ((dd l k).map Prod.fst).Nodup
  | 0 => by simp [dd]
  | k + 1 => by
    have := dd_nodup l k
    simp only [dd]
    split
    · exact this
    · rename_i h
      rw [List.map_append, List.nodup_append]
      refine ⟨this, by simp, fun a ha b hb e => ?_⟩
      obtain rfl : b = (l.getD k (⟨#[]⟩, 0)).1 := by simpa using hb
      subst e
      obtain ⟨x, hx, hxe⟩ := List.mem_map.1 ha
      exact h (List.any_eq_true.2 ⟨x, hx, by simpa using hxe⟩)
set_option maxRecDepth 100000 in
set_option maxHeartbeats 2000000 in
theorem ref_once_calls {w : World} {A : Option Addr} {c : Nat} {l : List (ByteArray × Int)} (hA : ERow w A l) (hl : l.length ≤ 1000) :
    Calls Try.prog 42 #[.slice A l.length c] w fun e w' => ∃ A' n c', e = .returned (.slice A' n c') ∧ ESeg w' 45 A' n c' (dd l l.length) ∧ (∀ k, blockOf A' = some k → w.heap.size ≤ k) ∧ Below w.heap.size w w' := by
  obtain ⟨i0, hi0, hz0, hs0, hy0⟩ := rent_info
  go_enter Try.func42, Try.ntmps42
  go_wp2
  go_loopw [3, 12] (fun v3 v12 wr => ∃ (k n : Nat) (B : Option Addr) (cB : Nat), k ≤ l.length ∧ v12 = .int .i64 (k : Int) ∧ v3 = .slice B n cB ∧ ESeg wr 45 B n cB (dd l k) ∧ (∀ j, blockOf B = some j → w.heap.size ≤ j) ∧ Step (fun _ => False) w wr) (fun _ v _ => l.length - (intOf v).toNat)
  case atStart =>
    exact ⟨0, 0, _, _, by omega, rfl, rfl, ⟨rfl, .inr ⟨w.heap.size, #[], rfl, heap_alloc_new w _, by omega, by simp, fun j v hj => by simp [dd, ecells] at hj⟩⟩, (by intro j hj; have : w.heap.size = j := Option.some.inj hj; omega), Step.alloc (Step.refl _ _) _⟩
  case round =>
    obtain ⟨k, n, B, cB, hk, rfl, rfl, hO, hfar, hS⟩ := hrel
    by_cases hlt : k < l.length
    · have hlt' : (k : Int) < (l.length : Int) := by omega
      have hA3 := hA.keep hS (fun _ _ h => h)
      rcases hA3 with h0 | ⟨ga, o, rfl, hcell⟩
      · subst h0; simp at hlt
      · obtain ⟨h1, h2⟩ := hcell k l[k] (List.getElem?_eq_getElem hlt)
        have hge : l.getD k (⟨#[]⟩, 0) = l[k] := by simp [List.getD_eq_getElem?_getD, hlt]
        have hdl := dd_length l k
        have hnx : dd l (k + 1) = if (dd l k).any (fun x => decide (x.1 = (l[k]).1)) then dd l k else dd l k ++ [l[k]] := by rw [← hge]; rfl
        have HNX := Lib.hid hnx
        clear hnx hge
        generalize hle : l[k] = e at *
        generalize dd l k = D at *
        obtain ⟨s, z⟩ := e
        go_upto_region 5 with (fail)
        refine alloc_next (cs := [.string s, .int .i64 z]) ?_
        intro w3 hE hs3
        have hS3 := hS.same hs3
        have hO3 := hO.keep hs3 (fun _ _ h => h)
        have hel := hE.lt
        generalize wr.heap.size = eb at *
        clear hO hs3 h1 h2 hcell
        have hDn := hO3.1
        go_wp2
        go_loopw [6, 18] (fun v6 v18 wq => ∃ (j : Nat), j ≤ n ∧ v18 = .int .i64 (j : Int) ∧ v6 = .bool ((D.take j).any (fun x => decide (x.1 = s))) ∧ Step (fun _ => False) w3 wq) (fun _ v _ => n - (intOf v).toNat)
        case atStart => exact ⟨0, by omega, rfl, rfl, Step.refl _ _⟩
        case round =>
          obtain ⟨j, hj, rfl, rfl, hSq⟩ := hrel
          by_cases hjn : j < n
          · have hjn' : (j : Int) < (n : Int) := by omega
            have hjD : j < D.length := by omega
            have hrow := (hO3.keep hSq (fun _ _ h => h)).row
            rcases hrow with h0 | ⟨gd, od, rfl, hcd⟩
            · subst h0; simp at hjD
            · obtain ⟨d1, d2⟩ := hcd j D[j] (List.getElem?_eq_getElem hjD)
              have htj : (D.take (j + 1)).any (fun x => decide (x.1 = s)) = ((D.take j).any (fun x => decide (x.1 = s)) || decide ((D[j]).1 = s)) := by
                rw [List.take_add_one, List.getElem?_eq_getElem hjD, List.any_append]; simp only [Option.toList_some, List.any_cons, List.any_nil, Bool.or_false]
              generalize hdj : D[j] = d at *
              obtain ⟨t, y⟩ := d
              generalize (D.take j).any (fun x => decide (x.1 = s)) = bj at *
              go_upto_region 9 with (fail)
              refine alloc_next (cs := [.string t, .int .i64 y]) ?_
              intro w5 hT hs5
              have hE5 := hE.keep (hSq.same hs5) (fun h => h)
              have hS5 := hSq.same hs5
              have y0 := hT.cell (i := 0) rfl
              have y1 := hE5.cell (i := 0) rfl
              generalize wr.heap.size = tb at *
              clear d1 d2 hcd hs5
              cases bj with
              | true =>
                go_wp2
                exact ⟨⟨j + 1, by omega, by go_num, by rw [htj]; rfl, hS5⟩, by simp [intOf]; omega⟩
              | false =>
                by_cases hts : t = s
                · subst hts
                  go_wp2
                  exact ⟨⟨j + 1, by omega, by go_num, by rw [htj]; simp, hS5⟩, by simp [intOf]; omega⟩
                · have hb1 := bytes_ne hts
                  go_wp2
                  exact ⟨⟨j + 1, by omega, by go_num, by rw [htj, decide_eq_false hts]; rfl, hS5⟩, by simp [intOf]; omega⟩
          · obtain rfl : j = n := by omega
            have htk : D.take j = D := List.take_of_length_le (by omega)
            rw [htk]
            have hE5 := hE.keep hSq (fun h => h)
            have hO5 := hO3.keep hSq (fun _ _ h => h)
            have hS5 := hS3.same hSq
            have x0 := hE5.cell (i := 0) rfl
            have x1 := hE5.cell (i := 1) rfl
            generalize hany : D.any (fun x => decide (x.1 = s)) = bn at *
            cases bn with
            | true =>
              go_wp2
              exact ⟨⟨k + 1, j, B, cB, by omega, by go_num, rfl, by rw [HNX.out, if_pos (by simp [hany])]; exact hO5, hfar, hS5⟩, by simp [intOf]; omega⟩
            | false =>
              have hO6 := hO5.keep (Step.alloc (Step.refl (fun _ => False) wr) (.cells #[Value.string s, .int .i64 z] 45)) (fun _ _ h => h)
              have hB2 := blk_new wr (ecells [(s, z)]) 45
              go_wp2_with (at_builtin; refine wpList_append_ent _ rfl (.tmp 33) (.tmp 35) 40 rfl 45 i0 _ Try.underlying40 hi0 hz0 rfl hs0 hy0 rfl hO6 rfl (r := [(s, z)]) rfl (by omega) (blk_src hB2) (by omega) ?_; intro A2 c2 w6 hO7 hs7 hat7)
              have hS6 := hS5.same (Step.alloc (Step.refl (fun _ => False) wr) (.cells #[Value.string s, .int .i64 z] 45))
              have hS7 := hS6.trans hs7 (fun j hj hg => absurd (hfar j hg) (Nat.not_le.2 hj))
              refine ⟨⟨k + 1, j + 1, A2, c2, by omega, by go_num, rfl, by rw [HNX.out, if_neg (by simp [hany])]; exact hO7, fun q hq => ?_, hS7⟩, by simp [intOf]; omega⟩
              rcases hat7 with hat7 | ⟨i, hi, hil⟩
              · exact hfar q (hat7 ▸ hq)
              · obtain rfl : i = q := Option.some.inj (hi.symm.trans hq)
                exact Nat.le_trans hS6.size hil
    · obtain rfl : k = l.length := by omega
      go_wp2
      go_ret
      exact ⟨B, n, cB, rfl, hO, hfar, hS.below (Nat.le_refl _) (fun _ h => h.elim)⟩
end Go.Proofs.Ytlmppdpjjkdoaab.Rot
