/- The walk of stewardlaw25.IdleOnce. Own work of this seat. -/
import Derived.Test.YtgohlbljdffelaaIdlF
namespace Go.Proofs.Ytgohlbljdffelaa.Idl
open Go.RowKit Go.Proofs.Ytgohlbljdffelaa.Kit Go.Proofs.Ytgohlbljdffelaa.AgP Go.Proofs.Ytgohlbljdffelaa.IntS Go.Proofs.Ytgohlbljdffelaa Go.Proofs.YtgohlbljdffelaaW.PrintWords Go.Proofs.Ytgohlbljdffelaa.Cut
set_option linter.unusedVariables false
set_option linter.unusedSimpArgs false

/-- Between the calls of IdleOnce. -/
structure OJ (w0 w : World) (p b : Nat) (F : Nat → Prop) (mo : Int) (l : List On) (t : Nat) : Prop where
  idr : IdR w p F mo 1000 l t
  mp : ∃ n f, MG Try.prog 3 w b n l.length f ∧ Fo f l ∧ n ≤ t
  sep : ¬ F b
  low : (∀ k, F k → w0.heap.size ≤ k) ∧ w0.heap.size ≤ b
  cap : ∀ s, ((stackOf l s).length : Int) ≤ mo
  bel : Below w0.heap.size w0 w
theorem OJ.same {w0 w w' : World} {p b : Nat} {F : Nat → Prop} {mo : Int} {l : List On} {t : Nat} (h : OJ w0 w p b F mo l t) (hs : Step (fun _ => False) w w') : OJ w0 w' p b F mo l t := by
  obtain ⟨n, f, h1, h2, h3⟩ := h.mp
  exact ⟨h.idr.same hs, ⟨n, f, h1.keep hs (fun h => h), h2, h3⟩, h.sep, h.low, h.cap, h.bel.trans (hs.below h.bel.size (fun _ h => h.elim))⟩

set_option maxRecDepth 100000 in
set_option maxHeartbeats 8000000 in
theorem once_calls (mo0 : Int) (A0 : Option Addr) (c0 : Nat) (acts : List Act4) (w : World) (hr : Kd.C kAct4 w A0 acts.length acts) (hc : acts.length ≤ c0) (hg : ∀ x ∈ acts, AgInt.KOk x.f1 ∧ x.f3.size ≤ 9223372036854775807) :
    Calls Try.prog 4 #[.int .i64 mo0, .slice A0 acts.length c0] w fun e w' => e = .returned (.bool true) ∧ Below w.heap.size w w' := by
  have hact0 : ∀ i, i < acts.length → _ := fun i hi => act_at hr i hi
  have hact := Lib.hid hact0
  have HG := Lib.hid (fun i (hi : i < acts.length) => hg (acts.getD i zAct4) (by rw [List.getD_eq_getElem?_getD, List.getElem?_eq_getElem hi]; exact List.getElem_mem hi))
  clear hact0 hr hg
  generalize acts.length = n at *
  have hclip := clip1_if mo0 0 1024 (by omega)
  have hmo0 : 0 ≤ clip1 mo0 0 1024 := by unfold clip1; omega
  have HN := Lib.hid (fun w1 => new_calls w1 mo0 1000)
  rw [show clip1 1000 1 1048576 = 1000 from rfl] at HN
  generalize clip1 mo0 0 1024 = mo at *
  obtain ⟨mq, hmq⟩ : ∃ mq, (if (1024 : Int) < mo0 then 1024 else mo0) = mq := ⟨_, rfl⟩
  rw [hmq] at hclip
  have hmm := @run_makeMap Try.prog
  go_enter Try.func4, Try.ntmps4
  go_upto_region 7 with (first | (go_at_call 13; refine (awake_calls _).mono ?_; rintro e0 w1 ⟨rfl, hs1⟩) | (go_at_call 14; refine (HN.out _).mono ?_; rintro e1 w2 ⟨p, F, rfl, hI2, hs2, hF2⟩))
  have hJ0 : OJ w (w2.alloc (.map #[] 0)) p w2.heap.size F mo [] 0 := by
    have hst : Step (fun _ => False) w2 (w2.alloc (.map #[] 0)) := (Step.refl _ _).alloc _
    have z1 := hs1.size
    have z2 := hs2.size
    refine ⟨hI2.same hst, ⟨0, _, mg_new _ _ _, fun c => rfl, Nat.le_refl _⟩, fun h => by have := hI2.1 _ h; omega, ⟨fun k hk => by have := hF2 k hk; omega, by omega⟩, fun s => ?_, ((Below.refl _ _).trans (hs1.below (Nat.le_refl _) (fun _ h => h.elim))).trans ((hs2.same hst).below z1 (fun _ h => h.elim))⟩
    show ((0 : Nat) : Int) ≤ mo
    omega
  generalize w2.heap.size = b at *
  generalize (w2.alloc (.map #[] 0)) = w3 at *
  clear hI2 hs1 hs2 hF2 HN
  go_wp2
  go_loopw [7] (fun v7 wr => ∃ (i : Nat) (F : Nat → Prop) (l : List On) (t : Nat), v7 = .int .i64 (i : Int) ∧ i ≤ 50 ∧ t ≤ i ∧ OJ w wr p b F mo l t) (fun v _ => 50 - (intOf v).toNat)
  case atStart => exact ⟨0, F, [], 0, rfl, by omega, by omega, hJ0⟩
  case round =>
    clear hJ0
    obtain ⟨i, F, l, t, rfl, hi, hti, hJ⟩ := hrel
    by_cases hgo : i < n ∧ i < 50
    · obtain ⟨hin, hi50⟩ := hgo
      have hin' : ((i : Int) < (n : Int)) := by omega
      have hi50' : ((i : Int) < 50) := by omega
      obtain ⟨ad, ⟨kd, cn, nn, nm⟩, rfl, hxe, hcell⟩ := hact.out i hin
      obtain ⟨hck, hnsz⟩ := HG.out i hin
      rw [← hxe] at hck hnsz
      obtain ⟨a0, a1, a2, a3⟩ := hcell wr hJ.bel
      have hFeb : ∀ k, F k → k < wr.heap.size := hJ.idr.1
      have hbeb : b < wr.heap.size := by obtain ⟨_, _, h, _⟩ := hJ.mp; exact h.lt
      have HCU := Lib.hid (fun w' => cut_calls nm 12 hnsz w')
      have hssz := cutB_size nm 12
      clear hcell hxe hact HG
      simp only at a0 a1 a2 a3 hck
      generalize cutB nm 12 = s at *
      go_upto_region 11 with (fail)
      refine alloc_next (cs := [.int .i64 kd, .int .i64 cn, .int .i64 nn, .string nm]) ?_
      intro w4 hE hs4
      have hJ4 := hJ.same hs4
      clear a0 a1 a2 a3 hJ
      generalize wr.heap.size = eb at *
      have e3 := hE.cell (i := 3) rfl
      go_upto_region 12 with (go_at_call 15; refine (HCU.out _).mono ?_; rintro e5 w5 ⟨rfl, rfl⟩)
      have e0 := hE.cell (i := 0) rfl
      have e1 := hE.cell (i := 1) rfl
      clear e3 HCU hnsz
      have hJh := Lib.hid hJ4
      obtain ⟨m0, f0, hM0, hfo0, hm0t⟩ := hJ4.mp
      have hnd := hJ4.idr.nodup
      have HFO := Lib.hid hfo0
      have HND := Lib.hid hnd
      have HM0 := Lib.hid hM0
      clear hJ4 hfo0 hnd hM0
      by_cases k0 : kd = 0
      · subst k0
        have HM0' := HM0.out
        go_upto_region 19 with (refine wpList_mg_put rfl (.tmp 62) (.tmp 64) (.tmp 65) 36 rfl HM0' mik Try.underlying36 (by omega) (val := .string s) (ilit_ok cn) (mikey hck) rfl rfl rfl ?_; intro w5 hM5 hs5)
        have hI5 := hJh.out.idr.keep hs5 (fun k hk e => hJh.out.sep (e ▸ hk))
        have hE5 := hE.keep hs5 (fun e => by omega)
        have x1 := hE5.cell (i := 1) rfl
        have hb5 := hM5.lt
        have HP := Lib.hid (put_calls hI5 (by omega) (by omega) hmo0 (by omega) hck 0 (nm := s))
        generalize AgInt.clipT (AgInt.clipT 0 + 1000) = tmv at *
        obtain ⟨cs, hcs1, hcs2, hcs3⟩ := evict_spec mo s (addO l s cn tmv ((t + 1 : Nat) : Int)).length (addO l s cn tmv ((t + 1 : Nat) : Int)) []
        have hM5' : MG Try.prog 3 w5 b (m0 + 1) (addO l s cn tmv ((t + 1 : Nat) : Int)).length (putF f0 (ilit cn) (.string s)) := by
          rw [add_length HND.out, ← fo_some HFO.out]
          exact hM5
        have hfo5 : Fo (putF f0 (ilit cn) (.string s)) (addO l s cn tmv ((t + 1 : Nat) : Int)) := fo_put HFO.out s cn tmv _
        have hnd5 := nodup_add HND.out s cn tmv ((t + 1 : Nat) : Int)
        have hcap5 := put_cap hmo0 hJh.out.cap s cn tmv ((t + 1 : Nat) : Int)
        have hkk5 : ∀ o ∈ addO l s cn tmv ((t + 1 : Nat) : Int), AgInt.KOk o.conn := fun o ho => by
          unfold addO at ho
          rcases List.mem_append.1 ho with ho | ho
          · exact (hJh.out.idr.ok o (mem_dropC.1 ho).1).2
          · obtain rfl : o = _ := by simpa using ho
            exact hck
        have hR1 : (putL mo l s cn tmv ((t + 1 : Nat) : Int)).1 = dropAll (addO l s cn tmv ((t + 1 : Nat) : Int)) cs := hcs2
        have hR2 : (putL mo l s cn tmv ((t + 1 : Nat) : Int)).2 = cs := by
          have : (putL mo l s cn tmv ((t + 1 : Nat) : Int)).2 = [] ++ cs := hcs1
          rw [this, List.nil_append]
        rw [hR1] at hcap5
        rw [hR1, hR2] at HP
        clear hR1 hR2 hcs1 hcs2 hM5
        have hl2 : (addO l s cn tmv ((t + 1 : Nat) : Int)).length ≤ 1000 := by
          have := hJh.out.idr.len_le
          rw [add_length HND.out]
          split <;> omega
        generalize addO l s cn tmv ((t + 1 : Nat) : Int) = l2 at *
        have HC3 := Lib.hid hcs3
        have HND5 := Lib.hid hnd5
        have HCAP5 := Lib.hid hcap5
        have HKK5 := Lib.hid hkk5
        have HM5 := Lib.hid hM5'
        have HFO5 := Lib.hid hfo5
        have hb5s := hJh.out.bel.size
        clear hcs3 hnd5 hcap5 hkk5 hM5' hfo5 HM0' e0 e1 hI5
        go_wp2_with (go_at_call 16; refine HP.out.mono ?_; rintro e6 w6 ⟨F6, A6, c6, rfl, hR6, hA6, hI6, hs6, hn6⟩)
        have hsz5 := hs5.size
        have hF6b : ¬ F6 b := fun h => (hn6 b h).elim hJh.out.sep (fun h => by omega)
        have hF6l : ∀ k, F6 k → w.heap.size ≤ k := fun k hk => (hn6 k hk).elim (hJh.out.low.1 k) (fun h => by have := hs4.size; omega)
        have hB6 : Below w.heap.size w w6 := hJh.out.bel.trans ((hs5.below hJh.out.bel.size (fun k e => e ▸ hJh.out.low.2)).trans (hs6.below (by omega) hJh.out.low.1))
        have hM6 := HM5.out.keep hs6 hJh.out.sep
        have hcl : cs.length ≤ 1000 := by
          have := chain_len cs HND5.out (fun j c h => by obtain ⟨o, h1, _, h2⟩ := HC3.out j c h; exact ⟨o, h1, h2⟩)
          omega
        have HI6 := Lib.hid hI6
        have HR6 := Lib.hid hR6
        have HA6 := Lib.hid hA6
        clear hI6 hR6 hA6 HP x1 hn6 hs6 hs5
        go_loopw [11, 72] (fun v11 v72 wr => ∃ (j : Nat) (f' : Lit → Option Value), v72 = .int .i64 (j : Int) ∧ j ≤ cs.length ∧ MG Try.prog 3 wr b (m0 + 1) (dropAll l2 (cs.take j)).length f' ∧ Fo f' (dropAll l2 (cs.take j)) ∧ Step (· = b) w6 wr) (fun _ v _ => cs.length - (intOf v).toNat)
        case atStart => exact ⟨0, _, rfl, by omega, hM6, HFO5.out, Step.refl _ _⟩
        case round =>
          clear hM6
          obtain ⟨j, f', rfl, hj, hMj, hfj, hsj⟩ := hrel
          by_cases hjl : j < cs.length
          · have hjl' : (j : Int) < (cs.length : Int) := by omega
            have hRj := HR6.out.keep hsj (fun k hk e => by have := (HA6.out k hk).1; omega)
            obtain ⟨g6, rfl⟩ := hRj.one hjl
            have d0 := hRj.cell (List.getElem?_eq_getElem hjl)
            obtain ⟨o, ho, hon, hoc⟩ := HC3.out j _ (List.getElem?_eq_getElem hjl)
            have hoin : o ∈ l2 := by
              have : ∀ (xs : List Int) (l : List On) (o : On), o ∈ dropAll l xs → o ∈ l := by
                intro xs
                induction xs with
                | nil => intro l o h; exact h
                | cons x xs ih => intro l o h; exact (mem_dropC.1 (ih _ o h)).1
              exact this _ _ _ ho
            have hkc : AgInt.KOk cs[j] := hoc ▸ HKK5.out o hoin
            have hndj := nodup_all HND5.out (cs.take j)
            have how : ownF (dropAll l2 (cs.take j)) cs[j] = some s := by rw [← hoc, own_some hndj ho, hon]
            have htk : cs.take (j + 1) = cs.take j ++ [cs[j]] := by rw [List.take_add_one, List.getElem?_eq_getElem hjl]; rfl
            have hcap6 := hRj.le
            have hlook : (Instr.lookup 36 (.map (some b)) (.int .i64 cs[j]) false).run Try.prog wr = .ok (.string s) wr := by
              have := hMj.look mik Try.underlying36 (zstr wr) (ilit_ok cs[j]) (mikey hkc)
              rw [hfj, how] at this
              exact this
            have hMn : ∀ w8 m8, MG Try.prog 3 w8 b (m0 + 1) (if (f' (ilit cs[j])).isSome then (dropAll l2 (cs.take j)).length - 1 else (dropAll l2 (cs.take j)).length) m8 → MG Try.prog 3 w8 b (m0 + 1) (dropAll l2 (cs.take (j + 1))).length m8 := fun w8 m8 h => by
              rw [htk, dropAll_snoc, drop_len hndj, ← fo_some hfj]
              exact h
            have hFn : Fo (delF f' (ilit cs[j])) (dropAll l2 (cs.take (j + 1))) := by
              rw [htk, dropAll_snoc]
              exact fo_drop hfj _
            have HMN := Lib.hid hMn
            have HFN := Lib.hid hFn
            have HMJ := Lib.hid hMj
            clear ho hon hoc hoin hndj how htk hMn hFn hMj hfj hRj
            generalize cs[j] = cc at *
            go_wp2_with (refine wpList_mg_drop rfl (.tmp 81) (.tmp 82) 36 rfl HMJ.out mik Try.underlying36 (ilit_ok cc) (mikey hkc) rfl rfl ?_; intro w8 hM8 hs8)
            go_roundw
            case rel => exact ⟨j + 1, _, by go_num, by omega, HMN.out _ _ hM8, HFN.out, hsj.same hs8⟩
            case measure => simp [intOf]; omega
          · obtain rfl : j = cs.length := by omega
            have hge : ¬ ((cs.length : Int) < (cs.length : Int)) := by omega
            rw [List.take_of_length_le (Nat.le_refl _)] at hMj hfj
            have hJ7 : OJ w wr p b F6 mo (dropAll l2 cs) (t + 1) :=
              ⟨HI6.out.keep hsj (fun k hk e => hF6b (e ▸ hk)), ⟨m0 + 1, f', hMj, hfj, by omega⟩, hF6b, ⟨hF6l, hJh.out.low.2⟩, HCAP5.out, hB6.trans (hsj.below hB6.size (fun k e => e ▸ hJh.out.low.2))⟩
            clear hMj hfj
            generalize dropAll l2 cs = l7 at *
            obtain ⟨n7, f7, hM7, hf7, hn7⟩ := hJ7.mp
            have hlen7 := fun ty => hM7.len Try.underlying36 ty
            have HL7 := Lib.hid (len_calls hJ7.idr)
            have HO7 := Lib.hid (of_calls hJ7.idr (by omega) (s := s) (by omega))
            have hc7 : ¬ (mo < ((stackOf l7 s).length : Int)) := by have := hJ7.cap s; omega
            have HJ7 := Lib.hid hJ7
            have hll7 := hJ7.idr.len_le
            have hneq : (((l7.length : Nat) : Int) != ((l7.length : Nat) : Int)) = false := by simp
            clear hJ7 hM7 hf7
            go_wp2_with (first | (go_at_call 19; refine HL7.out.mono ?_; rintro e8 w8 ⟨rfl, rfl⟩) | (go_at_call 20; refine HO7.out.mono ?_; rintro e9 w9 ⟨A9, c9, rfl, hA9, hf9, hs9⟩))
            have hJ9 := HJ7.out.same hs9
            go_roundw
            case rel => exact ⟨i + 1, F6, l7, t + 1, by go_num, by omega, by omega, hJ9⟩
            case measure => simp [intOf]; omega
      · have q0 : (kd == 0) = false := by simp [k0]
        by_cases k1 : kd = 1
        · subst k1
          have HT := Lib.hid (take_calls hJh.out.idr (by omega) (s := s) (by omega))
          unfold takeL at HT
          cases hlast : (stackOf l s).getLast? with
          | none =>
            rw [hlast] at HT
            have HTT := Lib.hid HT.out
            clear HT
            go_upto_region 33 with (go_at_call 17; refine HTT.out.mono ?_; rintro e6 w6 ⟨rfl, hI6, hs6⟩)
            have hJ7 : OJ w w6 p b F mo l t :=
              ⟨hI6, ⟨m0, f0, HM0.out.keep hs6 hJh.out.sep, HFO.out, hm0t⟩, hJh.out.sep, hJh.out.low, hJh.out.cap, hJh.out.bel.trans (hs6.below hJh.out.bel.size hJh.out.low.1)⟩
            clear hI6 hlast
            obtain ⟨l7, hl7⟩ : ∃ l7, l = l7 := ⟨_, rfl⟩
            rw [hl7] at hJ7
            clear hl7
            obtain ⟨n7, f7, hM7, hf7, hn7⟩ := hJ7.mp
            have hlen7 := fun ty => hM7.len Try.underlying36 ty
            have HL7 := Lib.hid (len_calls hJ7.idr)
            have HO7 := Lib.hid (of_calls hJ7.idr (by omega) (s := s) (by omega))
            have hc7 : ¬ (mo < ((stackOf l7 s).length : Int)) := by have := hJ7.cap s; omega
            have HJ7 := Lib.hid hJ7
            have hll7 := hJ7.idr.len_le
            have hneq : (((l7.length : Nat) : Int) != ((l7.length : Nat) : Int)) = false := by simp
            clear hJ7 hM7 hf7
            go_wp2_with (first | (go_at_call 19; refine HL7.out.mono ?_; rintro e8 w8 ⟨rfl, rfl⟩) | (go_at_call 20; refine HO7.out.mono ?_; rintro e9 w9 ⟨A9, c9, rfl, hA9, hf9, hs9⟩))
            have hJ9 := HJ7.out.same hs9
            go_roundw
            case rel => exact ⟨i + 1, F, l7, t, by go_num, by omega, by omega, hJ9⟩
            case measure => simp [intOf]; omega
          | some c =>
            rw [hlast] at HT
            have HTT := Lib.hid HT.out
            clear HT
            obtain ⟨o, ho, hon, hoc⟩ := stack_mem.1 (List.mem_of_getLast? hlast)
            have hkc : AgInt.KOk c := hoc ▸ (hJh.out.idr.ok o ho).2
            have how : ownF l c = some s := by rw [← hoc, own_some HND.out ho, hon]
            have HLK := Lib.hid (fun w6 (hs6 : Step F w4 w6) => (by
              have := (HM0.out.keep hs6 hJh.out.sep).look_ok mik Try.underlying36 (zstr w6) (ilit_ok c) (mikey hkc)
              rw [HFO.out c, how] at this
              exact this : (Instr.lookup 36 (.map (some b)) (.int .i64 c) true).run Try.prog w6 = .ok (.tuple #[.string s, .bool true]) w6))
            clear ho hon hoc hlast
            go_upto_region 28 with (go_at_call 17; refine HTT.out.mono ?_; rintro e6 w6 ⟨rfl, hI6, hs6⟩)
            have hlook := HLK.out w6 hs6
            have HM6 := Lib.hid (HM0.out.keep hs6 hJh.out.sep)
            go_upto_region 33 with (refine wpList_mg_drop rfl (.tmp 106) (.tmp 107) 36 rfl HM6.out mik Try.underlying36 (ilit_ok c) (mikey hkc) rfl rfl ?_; intro w7 hM7 hs7)
            have hJ7 : OJ w w7 p b F mo (dropC l c) t := by
              refine ⟨hI6.keep hs7 (fun k hk e => hJh.out.sep (e ▸ hk)), ⟨m0, _, ?_, fo_drop HFO.out c, hm0t⟩, hJh.out.sep, hJh.out.low, drop_cap hJh.out.cap c, hJh.out.bel.trans ((hs6.below hJh.out.bel.size hJh.out.low.1).trans (hs7.below (by have := hJh.out.bel.size; have := hs6.size; omega) (fun k e => e ▸ hJh.out.low.2)))⟩
              rw [drop_len HND.out c, ← fo_some HFO.out]
              exact hM7
            clear hM7 hI6 HM6 hlook
            generalize dropC l c = l7 at *
            obtain ⟨n7, f7, hM7, hf7, hn7⟩ := hJ7.mp
            have hlen7 := fun ty => hM7.len Try.underlying36 ty
            have HL7 := Lib.hid (len_calls hJ7.idr)
            have HO7 := Lib.hid (of_calls hJ7.idr (by omega) (s := s) (by omega))
            have hc7 : ¬ (mo < ((stackOf l7 s).length : Int)) := by have := hJ7.cap s; omega
            have HJ7 := Lib.hid hJ7
            have hll7 := hJ7.idr.len_le
            have hneq : (((l7.length : Nat) : Int) != ((l7.length : Nat) : Int)) = false := by simp
            clear hJ7 hM7 hf7
            go_wp2_with (first | (go_at_call 19; refine HL7.out.mono ?_; rintro e8 w8 ⟨rfl, rfl⟩) | (go_at_call 20; refine HO7.out.mono ?_; rintro e9 w9 ⟨A9, c9, rfl, hA9, hf9, hs9⟩))
            have hJ9 := HJ7.out.same hs9
            go_roundw
            case rel => exact ⟨i + 1, F, l7, t, by go_num, by omega, by omega, hJ9⟩
            case measure => simp [intOf]; omega
        · have q1 : (kd == 1) = false := by simp [k1]
          have hlook : (Instr.lookup 36 (.map (some b)) (.int .i64 cn) true).run Try.prog w4 = .ok (.tuple #[((ownF l cn).map Value.string).getD (.string ⟨#[]⟩), .bool (ownF l cn).isSome]) w4 := by
            have := HM0.out.look_ok mik Try.underlying36 (zstr w4) (ilit_ok cn) (mikey hck)
            rw [HFO.out cn] at this
            rw [this]
            simp
          obtain ⟨vs, hvs⟩ : ∃ v, ((ownF l cn).map Value.string).getD (.string ⟨#[]⟩) = v := ⟨_, rfl⟩
          rw [hvs] at hlook
          have HD := Lib.hid (drop_calls hJh.out.idr (by omega) hck)
          have hob : ((ownF l cn).isSome != (ownF l cn).isSome) = false := by simp
          generalize hos : (ownF l cn).isSome = ob at *
          have HOS := Lib.hid hos
          clear hos hvs
          go_upto_region 16 with (go_at_call 18; refine HD.out.mono ?_; rintro e6 w6 ⟨rfl, hI6, hs6⟩)
          have hE6 := hE.keep hs6 (fun h => by have := hFeb _ h; omega)
          have x1 := hE6.cell (i := 1) rfl
          have HM6 := Lib.hid (HM0.out.keep hs6 hJh.out.sep)
          clear e0 e1 hlook
          go_upto_region 33 with (refine wpList_mg_drop rfl (.tmp 57) (.tmp 59) 36 rfl HM6.out mik Try.underlying36 (ilit_ok cn) (mikey hck) rfl rfl ?_; intro w7 hM7 hs7)
          have hJ7 : OJ w w7 p b F mo (dropC l cn) t := by
            refine ⟨hI6.keep hs7 (fun k hk e => hJh.out.sep (e ▸ hk)), ⟨m0, _, ?_, fo_drop HFO.out cn, hm0t⟩, hJh.out.sep, hJh.out.low, drop_cap hJh.out.cap cn, hJh.out.bel.trans ((hs6.below hJh.out.bel.size hJh.out.low.1).trans (hs7.below (by have := hJh.out.bel.size; have := hs6.size; omega) (fun k e => e ▸ hJh.out.low.2)))⟩
            rw [drop_len HND.out cn, ← fo_some HFO.out]
            exact hM7
          clear hM7 hI6 x1 HM6
          generalize dropC l cn = l7 at *
          obtain ⟨n7, f7, hM7, hf7, hn7⟩ := hJ7.mp
          have hlen7 := fun ty => hM7.len Try.underlying36 ty
          have HL7 := Lib.hid (len_calls hJ7.idr)
          have HO7 := Lib.hid (of_calls hJ7.idr (by omega) (s := s) (by omega))
          have hc7 : ¬ (mo < ((stackOf l7 s).length : Int)) := by have := hJ7.cap s; omega
          have HJ7 := Lib.hid hJ7
          have hll7 := hJ7.idr.len_le
          have hneq : (((l7.length : Nat) : Int) != ((l7.length : Nat) : Int)) = false := by simp
          clear hJ7 hM7 hf7
          go_wp2_with (first | (go_at_call 19; refine HL7.out.mono ?_; rintro e8 w8 ⟨rfl, rfl⟩) | (go_at_call 20; refine HO7.out.mono ?_; rintro e9 w9 ⟨A9, c9, rfl, hA9, hf9, hs9⟩))
          have hJ9 := HJ7.out.same hs9
          go_roundw
          case rel => exact ⟨i + 1, F, l7, t, by go_num, by omega, by omega, hJ9⟩
          case measure => simp [intOf]; omega
    · have hB := hJ.bel
      have hgo' : ¬ ((i : Int) < (n : Int)) ∨ ¬ ((i : Int) < 50) := by omega
      clear hJ hact HG
      by_cases hin : (i : Int) < (n : Int)
      · have h50 : ¬ ((i : Int) < 50) := by omega
        go_wp2
        go_ret
        exact ⟨rfl, hB⟩
      · go_wp2
        go_ret
        exact ⟨rfl, hB⟩
end Go.Proofs.Ytgohlbljdffelaa.Idl
