/- PoolCounts: how many requests each has; the calls of both on an empty list of the document's. Own work of this seat. -/
import Derived.Test.YteebahjpoafhmaaRef0
namespace Go.Proofs.Yteebahjpoafhmaa.Pool
open Go.RowKit Go.Proofs.Yteebahjpoafhmaa.Kit Go.Proofs.Yteebahjpoafhmaa.PPoolPlays Go.Proofs.YteebahjpoafhmaaW.PrintWords Go.Proofs.YteebahjpoafhmaaW.PrintLast Go.Proofs.YteebahjpoafhmaaW.PrintMore
set_option linter.unusedVariables false
set_option linter.unusedSimpArgs false

/-- f tells of each name how many requests it has. -/
structure NN (l : List S38) (f : ByteArray → Int) : Prop where
  cnt : ∀ x ∈ l, x.f4 = f x.f0
  none : ∀ s, (∀ x ∈ l, x.f0 ≠ s) → f s = 0
section
variable {l : List S38} {f : ByteArray → Int} {s : ByteArray}
theorem nn_nil : NN [] (fun _ => 0) := ⟨fun x hx => (by cases hx), fun _ _ => rfl⟩
theorem NN.upd {g : S38 → S38} (h : NN l f) (hg : ∀ x, (g x).f0 = x.f0) (h4 : ∀ x, (g x).f4 = x.f4) : NN (upd s g l) f :=
  ⟨fun y hy => by
    obtain ⟨x, hx, ⟨e, rfl⟩ | ⟨e, rfl⟩⟩ := mem_upd.1 hy
    · rw [hg, h4]; exact h.cnt x hx
    · exact h.cnt y hx, fun t ht => h.none t (fun x hx e => by
    by_cases hs : x.f0 = s
    · exact ht (g x) (mem_upd.2 ⟨x, hx, .inl ⟨hs, rfl⟩⟩) (by rw [hg, e])
    · exact ht x (mem_upd.2 ⟨x, hx, .inr ⟨hs, rfl⟩⟩) e)⟩
theorem NN.swept (h : NN l f) (hn : (l.map (·.f0)).Nodup) : NN (swept l) f :=
  ⟨fun x hx => h.cnt x (mem_swept.1 hx).1, fun t ht => by
    by_cases hex : ∃ x ∈ l, x.f0 = t
    · obtain ⟨x, hx, e⟩ := hex
      by_cases hgo : x.f3 = 2 ∧ x.f4 = 0
      · rw [← e, ← h.cnt x hx]; exact hgo.2
      · exact absurd e (ht x (mem_swept.2 ⟨hx, hgo⟩))
    · exact h.none t (fun x hx e => hex ⟨x, hx, e⟩)⟩
theorem NN.put (h : NN l f) {x : S38} (hx : x ∈ l) (hs : x.f0 = s) (d : Int) (hn : (l.map (·.f0)).Nodup) : NN (Pool.upd s (fun y => toB (y.f4 + d) y) l) (mupd f s (x.f4 + d)) :=
  ⟨fun y hy => by
    obtain ⟨z, hz, ⟨e, rfl⟩ | ⟨e, rfl⟩⟩ := mem_upd.1 hy
    · obtain rfl := nodup_inj hn hx hz (hs.trans e.symm)
      show x.f4 + d = mupd f s (x.f4 + d) x.f0
      rw [e, mupd_same]
    · rw [mupd_other _ _ e]; exact h.cnt y hz, fun t ht => by
    have hts : t ≠ s := fun e => ht (toB (x.f4 + d) x) (mem_upd.2 ⟨x, hx, .inl ⟨hs, rfl⟩⟩) (by show x.f0 = t; rw [hs, e])
    rw [mupd_other _ _ hts]
    exact h.none t (fun z hz e => ht z (mem_upd.2 ⟨z, hz, .inr ⟨fun e' => hts (by rw [← e, e']), rfl⟩⟩) e)⟩
theorem NN.add (h : NN l f) (wt cp : Int) : NN (addR l s wt cp).1 f := by
  unfold addR
  split
  · split
    · exact h
    · rename_i h2
      split
      · exact h
      · have hn : ∀ x ∈ l, x.f0 ≠ s := find_none (by simpa using h2)
        refine ⟨fun x hx => ?_, fun t ht => h.none t (fun x hx => ht x (List.mem_append_left _ hx))⟩
        rcases List.mem_append.1 hx with hx | hx
        · exact h.cnt x hx
        · rw [List.mem_singleton.1 hx]
          exact (h.none s hn).symm
  · exact h
theorem NN.chg (h : NN l f) (st : Int) : NN (chgR l s (toS st)).1 f := by
  unfold chgR
  split
  · exact h
  · split
    · exact h
    · exact h.upd (fun _ => rfl) (fun _ => rfl)
theorem NN.rew (h : NN l f) (n : Int) : NN (rewR l s n).1 f := by
  unfold rewR
  split
  · exact h
  · split
    · exact h
    · split
      · exact h.upd (fun _ => rfl) (fun _ => rfl)
      · exact h
theorem NN.rem (h : NN l f) (hg : Good0 l) : NN (remR l s).1 f := (h.chg 2).swept (chg_good0 hg s 2).nd
theorem NN.take (h : NN l f) (hg : Good l) : ((takeR l s).2 = 0 → NN (takeR l s).1 (mupd f s (f s + 1)) ∧ 0 ≤ f s ∧ f s ≤ 65535) ∧ ((takeR l s).2 ≠ 0 → NN (takeR l s).1 f) := by
  unfold takeR
  split
  · exact ⟨fun e => absurd (show (6 : Int) = 0 from e) (by decide), fun _ => h⟩
  · rename_i x hf
    obtain ⟨hx, hs⟩ := find_mem hf
    split
    · exact ⟨fun e => absurd (show (9 : Int) = 0 from e) (by decide), fun _ => h⟩
    · split
      · exact ⟨fun e => absurd (show (8 : Int) = 0 from e) (by decide), fun _ => h⟩
      · refine ⟨fun _ => ?_, fun e => absurd rfl e⟩
        have h1 := h.put hx hs 1 hg.nd
        have h2 := h.cnt x hx
        have h3 := hg.num x hx
        rw [hs] at h2
        rw [h2] at h1 h3
        exact ⟨h1, h3.1, by omega⟩
theorem NN.give (h : NN l f) (hg : Good l) : ((giveR l s).2.2 = 0 → NN (giveR l s).1 (mupd f s (f s - 1)) ∧ 0 ≤ f s ∧ f s ≤ 65535) ∧ ((giveR l s).2.2 ≠ 0 → NN (giveR l s).1 f) := by
  unfold giveR
  split
  · exact ⟨fun e => absurd (show (6 : Int) = 0 from e) (by decide), fun _ => h⟩
  · rename_i x hf
    obtain ⟨hx, hs⟩ := find_mem hf
    split
    · exact ⟨fun e => absurd (show (9 : Int) = 0 from e) (by decide), fun _ => h⟩
    · rename_i h4
      refine ⟨fun _ => ?_, fun e => absurd rfl e⟩
      have h1 := h.put hx hs (-1) hg.nd
      have h2 := h.cnt x hx
      have h3 := hg.num x hx
      have hnd : (Pool.upd s (fun y => toB (y.f4 + -1) y) l).map (·.f0) = l.map (·.f0) := upd_names (fun _ _ _ => rfl)
      have h5 := h1.swept (by rw [hnd]; exact hg.nd)
      rw [hs] at h2
      rw [h2] at h5 h3
      exact ⟨h5, h3.1, by omega⟩
end

/-- Each name is one that Add lets in. -/
def TN (l : List S38) : Prop := ∀ x ∈ l, tname x.f0 = true
section
variable {l : List S38} {s : ByteArray}
theorem tn_size {s : ByteArray} (h : tname s = true) : s.size ≤ 32 := by
  unfold tname at h
  simp only [Bool.and_eq_true, decide_eq_true_eq] at h
  exact h.2.1
theorem tn_upd {g : S38 → S38} (h : TN l) (hg : ∀ x, (g x).f0 = x.f0) : TN (Pool.upd s g l) := fun y hy => by
  obtain ⟨x, hx, ⟨e, rfl⟩ | ⟨e, rfl⟩⟩ := mem_upd.1 hy
  · rw [hg]; exact h x hx
  · exact h y hx
theorem tn_swept (h : TN l) : TN (swept l) := fun y hy => h y (mem_swept.1 hy).1
theorem tn_add (h : TN l) (wt cp : Int) : TN (addR l s wt cp).1 := by
  unfold addR
  split
  · rename_i h1
    split
    · exact h
    · split
      · exact h
      · intro x hx
        rcases List.mem_append.1 hx with hx | hx
        · exact h x hx
        · rw [List.mem_singleton.1 hx]
          simp only [Bool.and_eq_true] at h1
          exact h1.1.1
  · exact h
theorem tn_chg (h : TN l) (st : Int) : TN (chgR l s (toS st)).1 := by
  unfold chgR
  split
  · exact h
  · split
    · exact h
    · exact tn_upd h (fun _ => rfl)
theorem tn_rew (h : TN l) (n : Int) : TN (rewR l s n).1 := by
  unfold rewR
  split
  · exact h
  · split
    · exact h
    · split
      · exact tn_upd h (fun _ => rfl)
      · exact h
theorem tn_rem (h : TN l) : TN (remR l s).1 := tn_swept (tn_chg h 2)
theorem tn_take (h : TN l) : TN (takeR l s).1 := by
  unfold takeR
  split
  · exact h
  · split
    · exact h
    · split
      · exact h
      · exact tn_upd h (fun _ => rfl)
theorem tn_give (h : TN l) : TN (giveR l s).1 := by
  unfold giveR
  split
  · exact h
  · split
    · exact h
    · exact tn_swept (tn_upd h (fun _ => rfl))
end

section
variable {P : Program}
theorem run_append_nilsrc (w : World) (t ty e : TypeId) (i : TypeInfo) (k : Nat) (ht : P.underlying t = some (.slice e)) (hi : P.info? e = some i) (hs1 : i.size = k) (g n c : Nat) (hnc : n ≤ c) :
    (Builtin.append_ #[t, t] ty #[.slice (some ⟨g, 0, none⟩) n c, .slice none 0 0]).run P w = .ok (.slice (some ⟨g, 0, none⟩) n c) w := by
  have hf : (Builtin.firstCells k 0 (.slice none 0 0)).run P w = .ok #[] w := by
    simp [Builtin.firstCells]
  have hst : (storeCells ((⟨g, 0, none⟩ : Addr).add (n * k)) []).run P w = .ok () w := by simp [storeCells]
  simp [Builtin.append_, run_underlying ht, sizeOf, typeInfo, hi, hs1, Builtin.lenOf, hnc, hf, hst]
/-- append(s, nil...). -/
theorem wpList_append_nilsrc (w : World) {ops : Array Oper} {rest : List Oper} {o : Oper} {a : Act} {Q : Exit → Act → World → Prop} (hgd : o.guard = none) (sl x : Operand) (t : TypeId)
    (ho : o.op = .call { callee := .builtin .append, args := #[sl, x], argTypes := #[t, t] })
    (e : TypeId) (i : TypeInfo) (k : Nat) (ht : P.underlying t = some (.slice e)) (hi : P.info? e = some i) (hs1 : i.size = k) {g n c : Nat} (hnc : n ≤ c)
    (hs : a.eval sl = .slice (some ⟨g, 0, none⟩) n c) (hx : a.eval x = .slice none 0 0)
    (h : wpList P ops Q rest (a.put o.dst (.slice (some ⟨g, 0, none⟩) n c)) w) : wpList P ops Q (o :: rest) a w := by
  refine wpList_plain hgd fun K hK => ?_
  have hr := run_append_nilsrc (P := P) w t o.type e i k ht hi hs1 g n c hnc
  unfold Oper.wp execOp
  simp only [ho, resolve, invoke, builtin, Sem.run_bind, Sem.run_pure, Result.andThen_ok, List.map_toArray, List.map_cons, List.map_nil, hs, hx, hr]
  exact hK _ _ h
end

set_option maxRecDepth 100000 in
set_option maxHeartbeats 4000000 in
/-- The document's Add over nobody returns. -/
theorem radd0_calls {w : World} (s : ByteArray) (hs : s.size ≤ 1000) (wt cp : Int) :
    Calls Try.prog 32 #[.slice none 0 0, .string s, .int .i64 wt, .int .i64 cp] w fun e w' => ∃ A' n' c' e', e = .returned (.tuple #[.slice A' n' c', .int .i64 e']) ∧ Step (fun _ => False) w w' := by
  obtain ⟨i0, hi0, hp⟩ : ∃ i, Try.prog.info? 67 = some i ∧ (i.zero, i.size, i.bytes) = (some (.agg #[.string ⟨#[]⟩, .int .i64 0, .int .i64 0, .int .i64 0, .int .i64 0]), 5, 48) := by
    exact Option.map_eq_some_iff.1 (by kernel_rfl : (Try.prog.info? 67).map (fun i => (i.zero, i.size, i.bytes)) = some (some (.agg #[.string ⟨#[]⟩, .int .i64 0, .int .i64 0, .int .i64 0, .int .i64 0]), 5, 48))
  simp only [Prod.mk.injEq] at hp
  obtain ⟨hz0, hs0, hy0⟩ := hp
  have HN := name04_calls (w := w) s hs
  have HF0 := fun w1 => find_calls (w := w1) (rrow_nil w1) (by omega) s
  have hgb : getB [] s = (⟨⟨#[]⟩, 0, 0, 0, 0⟩, false) := rfl
  simp only [hgb, bc] at HF0
  have HF := Lib.hid HF0
  clear HF0 hgb
  generalize tname s = b at *
  by_cases hok : b = true ∧ 1 ≤ wt ∧ wt ≤ 65535 ∧ 1 ≤ cp ∧ cp ≤ 65535
  · obtain ⟨rfl, h1, h2, h3, h4⟩ := hok
    have q1 : (wt < 1) = False := eq_false (by omega)
    have q2 : (wt > 65535) = False := eq_false (by omega)
    have q3 : (cp < 1) = False := eq_false (by omega)
    have q4 : (cp > 65535) = False := eq_false (by omega)
    clear h1 h2 h3 h4
    go_enter Try.func32, Try.ntmps32
    go_upto_region 4 with (first | (go_at_call 45; refine HN.mono ?_; rintro e1 w1 ⟨rfl, hs1⟩) | (go_at_call 46; refine (HF.out _).mono ?_; rintro e2 w2 ⟨rfl, hs2⟩))
    refine alloc_next (cs := [.string ⟨#[]⟩, .int .i64 0, .int .i64 0, .int .i64 0, .int .i64 0]) ?_
    intro w3 hE hs3
    clear hE
    go_upto_region 8 with (fail)
    have hz : RRow (w3.alloc (.cells #[] 67)) (some ⟨w3.heap.size, 0, none⟩) 0 0 [] := ⟨rfl, .inr ⟨w3.heap.size, #[], rfl, heap_alloc_new w3 _, by omega, by simp, fun j v hj => by simp [bcells] at hj⟩⟩
    have hb5 : Blk ((w3.alloc (.cells #[] 67)).alloc (.cells #[.string s, .int .i64 wt, .int .i64 cp, .int .i64 0, .int .i64 0] 67)) (w3.heap.size + 1) 67 (bc ⟨s, wt, cp, 0, 0⟩) := by
      have h := blk_new (w3.alloc (.cells #[] 67)) (bc ⟨s, wt, cp, 0, 0⟩) 67
      have e : (w3.alloc (.cells #[] 67)).heap.size = w3.heap.size + 1 := by show (w3.heap.push _).size = _; simp
      rw [e] at h
      exact h
    have hz5 := hz.keep ((Step.refl (fun _ => False) _).alloc (.cells #[.string s, .int .i64 wt, .int .i64 cp, .int .i64 0, .int .i64 0] 67)) (fun _ _ h => h)
    have hst5 : Step (fun _ => False) w3 ((w3.alloc (.cells #[] 67)).alloc (.cells #[.string s, .int .i64 wt, .int .i64 cp, .int .i64 0, .int .i64 0] 67)) := ((Step.refl _ _).alloc _).alloc _
    go_wp2_with (first | (at_builtin; refine wpList_append_nilsrc _ rfl (.tmp 44) (.tmp 45) 47 rfl 67 i0 5 Try.underlying47 hi0 hs0 (Nat.le_refl 0) rfl rfl ?_) | (at_builtin; refine wpList_append_flat _ rfl (.tmp 46) (.tmp 51) 47 rfl 67 i0 _ 5 48 Try.underlying47 hi0 hz0 rfl hs0 hy0 (by omega) rfl hz5 rfl (m := 1) (r := bc ⟨s, wt, cp, 0, 0⟩) rfl (fun _ => by omega) (fun v hv => bcells_one [⟨s, wt, cp, 0, 0⟩] v (by simpa [bcells] using hv)) (fun j v hj => by rw [addr_add', Nat.zero_add]; exact hb5.cell hj) (by omega) ?_; intro A6 c6 w6 hE6 hs6 hat6))
    go_ret2
    exact ⟨_, _, _, _, rfl, (((hs1.same hs2).same hs3).same hst5).trans hs6 (fun j hj e => by
      have e' : w3.heap.size = j := Option.some.inj e
      have h1 := hs1.size
      have h2 := hs2.size
      have h3 := hs3.size
      omega)⟩
  · have hcase : b = false ∨ (b = true ∧ wt < 1) ∨ (b = true ∧ ¬ wt < 1 ∧ wt > 65535) ∨ (b = true ∧ ¬ wt < 1 ∧ ¬ wt > 65535 ∧ cp < 1) ∨ (b = true ∧ ¬ wt < 1 ∧ ¬ wt > 65535 ∧ ¬ cp < 1 ∧ cp > 65535) := by
      cases b
      · exact .inl rfl
      · simp only [true_and] at hok
        simp only [true_and, reduceCtorEq, false_or]
        omega
    clear hok
    rcases hcase with rfl | ⟨rfl, q1⟩ | ⟨rfl, q1, q2⟩ | ⟨rfl, q1, q2, q3⟩ | ⟨rfl, q1, q2, q3, q4⟩
    all_goals
      go_enter Try.func32, Try.ntmps32
      go_wp2_with (first | (go_at_call 45; refine HN.mono ?_; rintro e1 w1 ⟨rfl, hs1⟩))
      go_ret2
      exact ⟨_, _, _, _, rfl, hs1⟩

set_option maxRecDepth 100000 in
set_option maxHeartbeats 4000000 in
/-- The document's Change over nobody. -/
theorem rchange0_calls {w : World} (s : ByteArray) (kd wt : Int) :
    Calls Try.prog 33 #[.slice none 0 0, .int .i64 kd, .string s, .int .i64 wt] w fun e w' => e = .returned (.tuple #[.slice none 0 0, .int .i64 6]) ∧ Step (fun _ => False) w w' := by
  have HF0 := find_calls (w := w) (rrow_nil w) (by omega) s
  have hgb : getB [] s = (⟨⟨#[]⟩, 0, 0, 0, 0⟩, false) := rfl
  simp only [hgb, bc] at HF0
  clear hgb
  go_enter Try.func33, Try.ntmps33
  go_upto_region 2 with (go_at_call 46; refine HF0.mono ?_; rintro e2 w2 ⟨rfl, hs2⟩)
  refine alloc_next (cs := [.string ⟨#[]⟩, .int .i64 0, .int .i64 0, .int .i64 0, .int .i64 0]) ?_
  intro w3 hE hs3
  go_wp2
  go_ret2
  exact ⟨rfl, hs2.same hs3⟩

/-- What a call leaves of the pool's list. -/
def Leaves0 (w w' : World) (p : Nat) (A : Option Addr) (l : List S38) : Prop := ∃ A' c' l', PAt w' p A' c' l' ∧ PStep p A w w' ∧ Near w A A' ∧ Good l' ∧ (TN l → TN l') ∧ ∀ f, NN l f → NN l' f

set_option maxRecDepth 100000 in
set_option maxHeartbeats 4000000 in
/-- A call of both, but a Take or a Give, the document's list being empty. -/
theorem do0_calls {w : World} {p : Nat} {A : Option Addr} {c : Nat} {l : List S38} (h : PAt w p A c l) (hg : Good l) (k wt cp : Int) (nm : ByteArray) (hk : k = 0 ∨ k = 1 ∨ k = 2 ∨ k = 3 ∨ k = 4) :
    Calls Try.prog 21 #[.pointer (some ⟨p, 0, none⟩), .slice none 0 0, .agg #[.int .i64 k, .int .i64 wt, .int .i64 cp, .string nm]] w fun e w' => (∃ v b, e = .returned (.tuple #[v, .bool b])) ∧ Leaves0 w w' p A l := by
  obtain ⟨s, hs40, HS0⟩ := cut_short nm
  have HS := Lib.hid HS0
  clear HS0
  rcases hk with rfl | rfl | rfl | rfl | rfl
  · go_enter Try.func21, Try.ntmps21
    go_upto_region 1 with (fail)
    refine alloc_next (cs := [.int .i64 0, .int .i64 wt, .int .i64 cp, .string nm]) ?_
    intro w1 hE hs1
    generalize w.heap.size = eb at *
    have e3 := hE.cell (i := 3) rfl
    go_upto_region 2 with (go_at_call 9; refine (HS.out _).mono ?_; rintro e2 w2 ⟨rfl, hs2⟩)
    have hE2 := hE.keep hs2 (fun h => h)
    have e0 := hE2.cell (i := 0) rfl
    have e1 := hE2.cell (i := 1) rfl
    have e2 := hE2.cell (i := 2) rfl
    clear e3
    go_upto_region 5 with (go_at_call 32; refine (radd0_calls (w := w2) s (by omega) wt cp).mono ?_; rintro e3 w3 ⟨A3, n3, c3, er3, rfl, hs3⟩)
    have hs := (hs1.same hs2).same hs3
    have HA := add_calls (h.still hs) hg.toGood0 s wt cp
    have hgA := add_good hg s wt cp
    have hE3 := hE2.keep hs3 (fun h => h)
    clear e0 e1 e2
    have g1 := hE3.cell (i := 1) rfl
    have g2 := hE3.cell (i := 2) rfl
    go_wp2_with (go_at_call 8; refine HA.mono ?_; rintro e4 w4 ⟨rfl, A4, c4, hP4, hs4, hn4⟩)
    go_ret2
    exact ⟨⟨_, _, rfl⟩, A4, c4, _, hP4, (pstep_still hs).same hs4, fun k hk => by rcases hn4 k hk with e | e; exact .inl e; exact .inr (Nat.le_trans hs.size e), hgA, fun h => tn_add h wt cp, fun f h => h.add wt cp⟩
  · go_enter Try.func21, Try.ntmps21
    go_upto_region 1 with (fail)
    refine alloc_next (cs := [.int .i64 1, .int .i64 wt, .int .i64 cp, .string nm]) ?_
    intro w1 hE hs1
    generalize w.heap.size = eb at *
    have e3 := hE.cell (i := 3) rfl
    go_upto_region 2 with (go_at_call 9; refine (HS.out _).mono ?_; rintro e2 w2 ⟨rfl, hs2⟩)
    have hE2 := hE.keep hs2 (fun h => h)
    have e0 := hE2.cell (i := 0) rfl
    have e1 := hE2.cell (i := 1) rfl
    have e2 := hE2.cell (i := 2) rfl
    clear e3
    go_upto_region 8 with (go_at_call 33; refine (rchange0_calls (w := w2) s 0 wt).mono ?_; rintro e3 w3 ⟨rfl, hs3⟩)
    have hs := (hs1.same hs2).same hs3
    have HA := reweight_calls (h.still hs) hg.toGood0 s wt
    have hgA := rew_good hg s wt
    have hE3 := hE2.keep hs3 (fun h => h)
    clear e0 e1 e2
    have g1 := hE3.cell (i := 1) rfl
    have g2 := hE3.cell (i := 2) rfl
    go_wp2_with (go_at_call 20; refine HA.mono ?_; rintro e4 w4 ⟨rfl, hP4, hs4⟩)
    go_ret2
    exact ⟨⟨_, _, rfl⟩, A, c, _, hP4, (pstep_still hs).same hs4, Near.refl _ _, hgA, fun h => tn_rew h wt, fun f h => h.rew wt⟩
  · go_enter Try.func21, Try.ntmps21
    go_upto_region 1 with (fail)
    refine alloc_next (cs := [.int .i64 2, .int .i64 wt, .int .i64 cp, .string nm]) ?_
    intro w1 hE hs1
    generalize w.heap.size = eb at *
    have e3 := hE.cell (i := 3) rfl
    go_upto_region 2 with (go_at_call 9; refine (HS.out _).mono ?_; rintro e2 w2 ⟨rfl, hs2⟩)
    have hE2 := hE.keep hs2 (fun h => h)
    have e0 := hE2.cell (i := 0) rfl
    have e1 := hE2.cell (i := 1) rfl
    have e2 := hE2.cell (i := 2) rfl
    clear e3
    go_upto_region 11 with (go_at_call 33; refine (rchange0_calls (w := w2) s 1 0).mono ?_; rintro e3 w3 ⟨rfl, hs3⟩)
    have hs := (hs1.same hs2).same hs3
    have HA := drain_calls (h.still hs) hg.toGood0 s
    have hgA := chg_good hg s 1 (by decide)
    have hE3 := hE2.keep hs3 (fun h => h)
    clear e0 e1 e2
    have g1 := hE3.cell (i := 1) rfl
    have g2 := hE3.cell (i := 2) rfl
    go_wp2_with (go_at_call 10; refine HA.mono ?_; rintro e4 w4 ⟨rfl, hP4, hs4⟩)
    go_ret2
    exact ⟨⟨_, _, rfl⟩, A, c, _, hP4, (pstep_still hs).same hs4, Near.refl _ _, hgA, fun h => tn_chg h 1, fun f h => h.chg 1⟩
  · go_enter Try.func21, Try.ntmps21
    go_upto_region 1 with (fail)
    refine alloc_next (cs := [.int .i64 3, .int .i64 wt, .int .i64 cp, .string nm]) ?_
    intro w1 hE hs1
    generalize w.heap.size = eb at *
    have e3 := hE.cell (i := 3) rfl
    go_upto_region 2 with (go_at_call 9; refine (HS.out _).mono ?_; rintro e2 w2 ⟨rfl, hs2⟩)
    have hE2 := hE.keep hs2 (fun h => h)
    have e0 := hE2.cell (i := 0) rfl
    have e1 := hE2.cell (i := 1) rfl
    have e2 := hE2.cell (i := 2) rfl
    clear e3
    go_upto_region 14 with (go_at_call 33; refine (rchange0_calls (w := w2) s 2 0).mono ?_; rintro e3 w3 ⟨rfl, hs3⟩)
    have hs := (hs1.same hs2).same hs3
    have HA := undrain_calls (h.still hs) hg.toGood0 s
    have hgA := chg_good hg s 0 (by decide)
    have hE3 := hE2.keep hs3 (fun h => h)
    clear e0 e1 e2
    have g1 := hE3.cell (i := 1) rfl
    have g2 := hE3.cell (i := 2) rfl
    go_wp2_with (go_at_call 11; refine HA.mono ?_; rintro e4 w4 ⟨rfl, hP4, hs4⟩)
    go_ret2
    exact ⟨⟨_, _, rfl⟩, A, c, _, hP4, (pstep_still hs).same hs4, Near.refl _ _, hgA, fun h => tn_chg h 0, fun f h => h.chg 0⟩
  · go_enter Try.func21, Try.ntmps21
    go_upto_region 1 with (fail)
    refine alloc_next (cs := [.int .i64 4, .int .i64 wt, .int .i64 cp, .string nm]) ?_
    intro w1 hE hs1
    generalize w.heap.size = eb at *
    have e3 := hE.cell (i := 3) rfl
    go_upto_region 2 with (go_at_call 9; refine (HS.out _).mono ?_; rintro e2 w2 ⟨rfl, hs2⟩)
    have hE2 := hE.keep hs2 (fun h => h)
    have e0 := hE2.cell (i := 0) rfl
    have e1 := hE2.cell (i := 1) rfl
    have e2 := hE2.cell (i := 2) rfl
    clear e3
    go_upto_region 17 with (go_at_call 33; refine (rchange0_calls (w := w2) s 3 0).mono ?_; rintro e3 w3 ⟨rfl, hs3⟩)
    have hs := (hs1.same hs2).same hs3
    have HA := remove_calls (h.still hs) hg.toGood0 s
    have hgA := rem_good hg s
    have hE3 := hE2.keep hs3 (fun h => h)
    clear e0 e1 e2
    have g1 := hE3.cell (i := 1) rfl
    have g2 := hE3.cell (i := 2) rfl
    go_wp2_with (go_at_call 12; refine HA.mono ?_; rintro e4 w4 ⟨rfl, hP4, hs4⟩)
    go_ret2
    exact ⟨⟨_, _, rfl⟩, A, c, _, hP4, (pstep_still hs).same hs4, Near.refl _ _, hgA, fun h => tn_rem h, fun f h => h.rem hg.toGood0⟩
end Go.Proofs.Yteebahjpoafhmaa.Pool
