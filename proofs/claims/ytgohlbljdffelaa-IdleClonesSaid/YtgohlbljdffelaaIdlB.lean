/- idle: Drop. Own work of this seat. -/
import Derived.Test.YtgohlbljdffelaaIdlA
namespace Go.Proofs.Ytgohlbljdffelaa.Idl
open Go.RowKit Go.Proofs.Ytgohlbljdffelaa.Kit Go.Proofs.Ytgohlbljdffelaa.AgP Go.Proofs.Ytgohlbljdffelaa.IntS Go.Proofs.Ytgohlbljdffelaa
set_option linter.unusedVariables false
set_option linter.unusedSimpArgs false

/-- What Drop leaves, out of its parts: the agenda's, the owners' and the stacks' steps. -/
theorem drop_ok {w w' : World} {p a MS MO : Nat} {FA : Nat → Prop} {most life : Int} {l : List On} {L : List (Ev Int)} {ro : ByteArray → Option Addr × Nat} {t n1 n2 m2 m2' : Nat} {fo fs fs' : Lit → Option Value} {o : On}
    (hx : IdX w p a MS MO FA most life l L ro t n1 n2 m2 fo fs) (ho : o ∈ l) (hst : Step (fun k => FA k ∨ k = MO ∨ k = MS ∨ blockOf (ro o.nm).1 = some k) w w')
    (hag : AgInt.AgR w' a FA (dropL L o.conn) t) (hmo : MG Try.prog 3 w' MO n1 (l.length - 1) (delF fo (ilit o.conn))) (hms : MG Try.prog 9 w' MS (n2 + 1) m2' fs')
    (hfs : ∀ s, fs' (slit s) = if s = o.nm then (if without o.conn (stackOf l s) = [] then none else some (.slice (ro s).1 (without o.conn (stackOf l s)).length (ro s).2)) else fs (slit s))
    (hrow : without o.conn (stackOf l o.nm) ≠ [] → ISeg w' (ro o.nm).1 (without o.conn (stackOf l o.nm)).length (ro o.nm).2 (without o.conn (stackOf l o.nm))) :
    IdX w' p a MS MO FA most life (dropC l o.conn) (dropL L o.conn) ro t n1 (n2 + 1) m2' (delF fo (ilit o.conn)) fs' := by
  have hsne : stackOf l o.nm ≠ [] := by
    intro e
    have : o.conn ∈ stackOf l o.nm := stack_mem.2 ⟨o, ho, rfl, rfl⟩
    rw [e] at this
    cases this
  have hother : ∀ s, s ≠ o.nm → without o.conn (stackOf l s) = stackOf l s := fun s hs => without_none (fun x hx' e => by
    obtain ⟨q, hq, h1, h2⟩ := stack_mem.1 hx'
    have e1 := own_some hx.ndc hq
    have e2 := own_some hx.ndc ho
    rw [h2, e, e2] at e1
    have := Option.some.inj e1
    exact hs (by rw [← h1, ← this]))
  have hsub : ∀ s, without o.conn (stackOf l s) ≠ [] → stackOf l s ≠ [] := fun s h e => h (by rw [e]; rfl)
  have hlen := dropC_length hx.ndc ho
  refine ⟨hx.blk.keep hst ?_, hag, drop_perm hx.pm _, ?_, fun c => ?_, hms, fun s => ?_, fun s hs => ?_, fun s s' k h1 h2 => ?_, fun s k h1 => ?_, hx.ne, ⟨hx.cnt.1, ?_⟩, fun q hq => hx.ok q (mem_dropC.1 hq).1, nodup_dropC hx.ndc _, hx.inc.sublist List.filter_sublist⟩
  · rintro (e | e | e | e)
    · exact hx.ne.1 e
    · exact hx.ne.2.2.2.2.2 e
    · exact hx.ne.2.2.2.2.1 e
    · exact (hx.rnf _ _ hsne e).2.1 rfl
  · have e : l.length - 1 = (dropC l o.conn).length := by omega
    rwa [e] at hmo
  · unfold delF
    rw [own_drop]
    by_cases e : c = o.conn
    · rw [e, if_pos (sameKey_self (ilit_ok _)), if_pos rfl]; rfl
    · have ek : ilit c ≠ ilit o.conn := fun e' => e (ilit_inj e')
      rw [if_neg (by rw [Go.Maps.sameKey_ne ek]; simp), if_neg e]
      exact hx.fo c
  · rw [hfs, stack_drop]
    by_cases e : s = o.nm
    · rw [if_pos e]
    · rw [if_neg e, hother s e]
      exact hx.fs s
  · rw [stack_drop] at hs ⊢
    by_cases e : s = o.nm
    · subst e; exact hrow hs
    · rw [hother s e] at hs ⊢
      refine (hx.row s hs).keep hst (fun k hk => ?_)
      rintro (e' | e' | e' | e')
      · exact (hx.rnf s k hs hk).1 e'
      · exact (hx.rnf s k hs hk).2.2.2 e'
      · exact (hx.rnf s k hs hk).2.2.1 e'
      · exact e (hx.sep s o.nm k hs hsne hk e')
  · rw [stack_drop] at h1 h2
    exact hx.sep s s' k (hsub s h1) (hsub s' h2)
  · rw [stack_drop] at h1
    exact hx.rnf s k (hsub s h1)
  · have := hx.cnt.2
    omega
theorem drop_foot {p MS MO : Nat} {FA : Nat → Prop} {l : List On} {ro : ByteArray → Option Addr × Nat} {c : Int} {k : Nat} (h : ifoot p MS MO FA (dropC l c) ro k) : ifoot p MS MO FA l ro k := by
  rcases h with h | h | h | h | ⟨s, h, e⟩
  · exact .inl h
  · exact .inr (.inl h)
  · exact .inr (.inr (.inl h))
  · exact .inr (.inr (.inr (.inl h)))
  · exact .inr (.inr (.inr (.inr ⟨s, fun e' => h (by rw [stack_drop, e']; rfl), e⟩)))

theorem drew_next {P : Program} {c : Code} {Q : Exit → Act → World → Prop} {a : Act} {w : World} (k : ∀ w2, Step (fun _ => False) w w2 → Code.wp P c Q a w2) : Code.wp P c Q a w.drew := k _ ((Step.refl _ _).drew)

set_option maxRecDepth 100000 in
set_option maxHeartbeats 2000000 in
theorem drop_calls {w : World} {p : Nat} {F : Nat → Prop} {most life : Int} {l : List On} {t : Nat} (h : IdR w p F most life l t) (ht : t ≤ 40000) {c : Int} (hc : AgInt.KOk c) :
    Calls Try.prog 18 #[.pointer (some ⟨p, 0, none⟩), .int .i64 c] w fun e w' => e = .returned (.bool (ownF l c).isSome) ∧ IdR w' p F most life (dropC l c) t ∧ Step F w w' := by
  have hll := h.len_le
  obtain ⟨h1, a, MS, MO, FA, L, ro, n1, n2, m2, fo, fs, hx, hF⟩ := id h
  have hplt := hx.blk.lt
  have HLK0 : ∀ w1, Step (fun _ => False) w w1 → (Instr.lookup 36 (.map (some MO)) (.int .i64 c) true).run Try.prog w1 = .ok (.tuple #[((ownF l c).map Value.string).getD (.string ⟨#[]⟩), .bool (ownF l c).isSome]) w1 := fun w1 hs => by
    have := (hx.mo.keep hs (fun h => h)).look_ok mik Try.underlying36 (zstr w1) (ilit_ok c) (mikey hc)
    rw [hx.fo c] at this
    rw [this]
    simp
  rcases own_cases l c with ⟨e1, e2⟩ | ⟨o, ho, hoc, e1⟩
  · rw [e1] at HLK0 ⊢
    rw [drop_none' e2]
    have HLK := Lib.hid HLK0
    have HX := Lib.hid hx
    clear hx hF h1 e1 e2 HLK0
    go_enter Try.func18, Try.ntmps18
    go_upto_region 1 with (fail)
    refine alloc_next (cs := [.int .i64 c]) ?_
    intro w1 hV hs1
    have d3 := (HX.out.blk.keep hs1 (fun h => h)).cell (i := 3) rfl
    have v0 := hV.cell (i := 0) rfl
    have hlook : (Instr.lookup 36 (.map (some MO)) (.int .i64 c) true).run Try.prog w1.drew = .ok (.tuple #[.string ⟨#[]⟩, .bool false]) w1.drew := HLK.out _ hs1.drew
    generalize w.heap.size = vb at *
    go_still_tail 10, (by kernel_rfl)
    go_wp2
    go_ret
    exact ⟨by simp, h.same hs1.drew, hs1.drew.mono (fun _ _ h => h.elim)⟩
  · subst hoc
    rw [e1] at HLK0 ⊢
    simp only [Option.map_some, Option.getD_some, Option.isSome_some] at HLK0 ⊢
    have hsne : stackOf l o.nm ≠ [] := by
      intro e
      have : o.conn ∈ stackOf l o.nm := stack_mem.2 ⟨o, ho, rfl, rfl⟩
      rw [e] at this
      cases this
    have hnm := (hx.ok o ho).1
    have hAlt : ∀ k, blockOf (ro o.nm).1 = some k → k < w.heap.size := fun k hk => (hx.row _ hsne).lt hk
    have hsl := stack_le l o.nm
    have HLK := Lib.hid HLK0
    have HX := Lib.hid hx
    have HSNE := Lib.hid hsne
    have HO := Lib.hid ho
    have HREST := Lib.hid (⟨h1, hF⟩ : (∀ k, F k → k < w.heap.size) ∧ ∀ k, ifoot p MS MO FA l ro k → F k)
    have hFA : ∀ k, FA k → k < w.heap.size := fun k hk => hx.ag.lt hk
    have hMS := hx.ms.lt
    have hMO := hx.mo.lt
    have hnMO := hx.ne.2.2.1
    have hcnt := hx.cnt
    clear hx hF h1 e1 HLK0 h hsne ho
    go_enter Try.func18, Try.ntmps18
    go_upto_region 1 with (fail)
    refine alloc_next (cs := [.int .i64 o.conn]) ?_
    intro w1 hV hs1
    obtain ⟨vb, hvb⟩ : ∃ vb, w.heap.size = vb := ⟨_, rfl⟩
    have hsz1 := hs1.size
    rw [hvb] at hplt hAlt hFA hMS hMO
    have hx1 := HX.out.keep hs1 (fun _ _ h => h)
    have d3 := hx1.blk.cell (i := 3) rfl
    have hlook := HLK.out _ hs1.drew
    rw [hvb] at hV ⊢
    have v0 := hV.cell (i := 0) rfl
    have HVB := Lib.hid hvb
    have HX1 := Lib.hid hx1
    clear hvb hx1
    go_upto_region 1 with (fail)
    go_still_tail 10, (by kernel_rfl)
    go_upto_region 4 with (fail)
    refine drew_next ?_
    intro w2 hs2
    have hx2 := HX1.out.keep hs2 (fun _ _ h => h)
    have hV2 := hV.keep hs2 (fun h => h)
    clear d3 v0 hlook
    have d4 := hx2.blk.cell (i := 4) rfl
    have v0 := hV2.cell (i := 0) rfl
    have HAD := Lib.hid (AgInt.drop_calls (hx2.ag.same ((Step.refl _ _).drew)) (by omega) hc)
    have HX2 := Lib.hid hx2
    clear hx2
    go_still_tail 5, (by kernel_rfl)
    go_upto_region 5 with (go_at_call 37; refine HAD.out.mono ?_; rintro e w3 ⟨rfl, hA3, hs3'⟩; have hs3 : Step FA w2 w3 := ((Step.refl FA w2).drew).same hs3')
    have hV3 := hV2.keep hs3 (fun h => by have := hFA _ h; omega)
    have hB3 := HX2.out.blk.keep hs3 HX2.out.ne.1
    have hMO3 := HX2.out.mo.keep hs3 hnMO
    clear d4 v0
    have d3 := hB3.cell (i := 3) rfl
    have v0 := hV3.cell (i := 0) rfl
    have HM3 := Lib.hid (hMO3.keep ((Step.refl (fun _ => False) w3).drew) (fun h => h))
    clear hMO3
    go_still_tail 5, (by kernel_rfl)
    go_upto_region 6 with (refine wpList_mg_drop rfl (.tmp 27) (.tmp 28) 36 rfl HM3.out mik Try.underlying36 (ilit_ok o.conn) (mikey hc) rfl rfl ?_; intro w4 hM4 hs4'; have hs4 : Step (· = MO) w3 w4 := ((Step.refl (· = MO) w3).drew).same hs4')
    have hf4 : (fo (ilit o.conn)).isSome = true := by rw [HX2.out.fo o.conn, own_some HX2.out.ndc HO.out]; rfl
    rw [if_pos hf4] at hM4
    have hrnf := fun k hk => HX2.out.rnf o.nm k HSNE.out hk
    have hne := HX2.out.ne
    have hV4 := hV3.keep hs4 (fun h => by omega)
    have hB4 := hB3.keep hs4 hne.2.2.2.2.2
    have hs34 : Step (fun k => FA k ∨ k = MO) w2 w4 := (hs3.mono (fun _ _ h => .inl h)).same (hs4.mono (fun _ _ h => .inr h))
    have hMS4 := HX2.out.ms.keep hs34 (fun h => h.elim hne.2.1 hne.2.2.2.1)
    have hR4 := (HX2.out.row o.nm HSNE.out).keep hs34 (fun k hk h => h.elim (hrnf k hk).1 (hrnf k hk).2.2.2)
    have hA4 := hA3.keep hs4 (fun k hk e => hnMO (e ▸ hk))
    have hlk4 : ∀ wx, Step (fun _ => False) w4 wx → (Instr.lookup 83 (.map (some MS)) (.string o.nm) false).run Try.prog wx = .ok (.slice (ro o.nm).1 (stackOf l o.nm).length (ro o.nm).2) wx := fun wx hs => by
      have := (hMS4.keep hs (fun h => h)).look msk Try.underlying83 (zsl wx) (slit_ok o.nm) (mskey hnm)
      rw [HX2.out.fs o.nm, if_neg HSNE.out] at this
      exact this
    have hlook := hlk4 _ ((Step.refl _ _).drew)
    have hvA : blockOf (ro o.nm).1 ≠ some vb := fun e => by have := hAlt _ e; omega
    have HDL := Lib.hid (delete_calls (w := w4.drew) hV4.drew hvA (hR4.keep ((Step.refl (fun _ => False) w4).drew) (fun _ _ h => h)) (by omega))
    have HM4 := Lib.hid (⟨hM4, hMS4, hA4, hB4⟩ : _ ∧ _ ∧ _ ∧ _)
    clear d3 v0 hM4 hMS4 hR4 hA4 hlk4 hs3' hs4' hf4
    have d2 := hB4.cell (i := 2) rfl
    obtain ⟨rest, hrest⟩ : ∃ r, without o.conn (stackOf l o.nm) = r := ⟨_, rfl⟩
    have HRE := Lib.hid hrest
    rw [hrest] at HDL
    generalize hro : ro o.nm = ra at *
    obtain ⟨A, cA⟩ := ra
    have HRO := Lib.hid hro
    simp only at hlook hvA HDL hAlt hrnf
    clear hro hrest
    have HS0 : ∀ w', Step (fun k => blockOf A = some k ∨ k = MS) w4 w' → w'.cell? ⟨p, 2, none⟩ = some (.map (some MS)) := fun w' hs =>
      (HM4.out.2.2.2.keep hs (fun h => h.elim (fun h => (hrnf p h).2.1 rfl) hne.2.2.2.2.1)).cell (i := 2) rfl
    have HS := Lib.hid HS0
    have HUP0 : ∀ w', Step (fun k => blockOf A = some k) w4 w' → ∀ v, ∃ w6, (Instr.mapUpdate 83 (.map (some MS)) (.string o.nm) v).run Try.prog w' = .ok () w6 ∧ (∃ m6, MG Try.prog 9 w6 MS (n2 + 1) m6 (putF fs (slit o.nm) v)) ∧ Step (· = MS) w' w6 := fun w' hs v => by
      obtain ⟨w6, h1, h2, h3⟩ := (HM4.out.2.1.keep hs (fun h => (hrnf MS h).2.2.1 rfl)).put msk Try.underlying83 (by omega) v (slit_ok o.nm) (mskey hnm)
      exact ⟨w6, h1, ⟨_, h2⟩, h3⟩
    have HUP := Lib.hid HUP0
    have hq4 : Step (fun k => blockOf A = some k) w4 w4.drew := (Step.refl _ _).drew
    clear HS0 HUP0
    go_region_held3 (fun w' => w'.cell? ⟨p, 2, none⟩ = some (.map (some MS))) (first | exact HS.out _ hq6 | exact HS.out _ (hq5.mono (fun _ _ h => .inl h)) | exact HS.out _ (hq4.mono (fun _ _ h => .inl h)) | go_keep)
      ((go_at_call 38; refine HDL.out.mono ?_; rintro e w5 ⟨rfl, hR5, hs5⟩; have hq5 : Step (fun k => blockOf A = some k) w4 w5 := hq4.same hs5; obtain ⟨w6, hup, hM6, hs6⟩ := HUP.out w5 hq5 (.slice A rest.length cA); have hq6 : Step (fun k => blockOf A = some k ∨ k = MS) w4 w6 := (hq5.mono (fun _ _ h => .inl h)).same (hs6.mono (fun _ _ h => .inr h))))
    all_goals
      obtain ⟨m6, hM6⟩ := hM6
      have hlk6 : (Instr.lookup 83 (.map (some MS)) (.string o.nm) false).run Try.prog w6 = .ok (.slice A rest.length cA) w6 := by
        have := hM6.look msk Try.underlying83 (zsl w6) (slit_ok o.nm) (mskey hnm)
        unfold putF at this
        rw [if_pos (sameKey_self (slit_ok _))] at this
        exact this
      have hd2 := HS.out _ hq6
      have hR6 := hR5.keep hs6 (fun k hk e => (hrnf k hk).2.2.1 e)
      have hs46 : Step (fun k => blockOf A = some k ∨ k = MS) w4 w6 := hq6
      have hall : Step (fun k => FA k ∨ k = MO ∨ k = MS ∨ blockOf A = some k) w w6 :=
        (((hs1.same hs2).mono (fun _ _ h => h.elim)).same (hs34.mono (fun _ _ h => h.imp id .inl))).same (hs46.mono (fun _ _ h => h.elim (fun h => .inr (.inr (.inr h))) (fun h => .inr (.inr (.inl h)))))
      have hA6 := HM4.out.2.2.1.keep hs46 (fun k hk h => h.elim (fun h => (hrnf k h).1 hk) (fun h => hne.2.1 (h ▸ hk)))
      have hMO6 := HM4.out.1.keep hs46 (fun h => h.elim (fun h => (hrnf MO h).2.2.2 rfl) (fun h => hne.2.2.2.1 h.symm))
      have hfs6 : ∀ s, putF fs (slit o.nm) (.slice A rest.length cA) (slit s) = if s = o.nm then some (.slice A rest.length cA) else fs (slit s) := fun s => by
        unfold putF
        by_cases e : s = o.nm
        · rw [e, if_pos (sameKey_self (slit_ok _)), if_pos rfl]
        · have ek : slit s ≠ slit o.nm := fun e' => e (slit_inj e')
          rw [if_neg (by rw [Go.Maps.sameKey_ne ek]; simp), if_neg e]
      have hfin : ∀ w7 fs' m7, Step (· = MS) w6 w7 → MG Try.prog 9 w7 MS (n2 + 1) m7 fs' → (∀ s, fs' (slit s) = if s = o.nm then (if rest = [] then none else some (.slice A rest.length cA)) else fs (slit s)) → IdR w7 p F most life (dropC l o.conn) t ∧ Step F w w7 := by
        intro w7 fs' m7 hs7 hM7 hf7
        have hall7 : Step (fun k => FA k ∨ k = MO ∨ k = MS ∨ blockOf A = some k) w w7 := hall.same (hs7.mono (fun _ _ h => .inr (.inr (.inl h))))
        have hA7 := hA6.keep hs7 (fun k hk e => hne.2.1 (e ▸ hk))
        have hMO7 := hMO6.keep hs7 (fun e => hne.2.2.2.1 e.symm)
        have hx7 := drop_ok HX.out HO.out (by rw [HRO.out]; exact hall7) hA7 hMO7 hM7 (fun s => by
          rw [hf7 s]
          by_cases e : s = o.nm
          · subst e
            rw [if_pos rfl, if_pos rfl, HRE.out, HRO.out]
          · rw [if_neg e, if_neg e]) (fun _ => by
          rw [HRO.out, HRE.out]
          exact hR6.keep hs7 (fun k hk e => (hrnf k hk).2.2.1 e))
        have hFF : ∀ k, (FA k ∨ k = MO ∨ k = MS ∨ blockOf A = some k) → F k := fun k hk => HREST.out.2 k (by
          rcases hk with h | h | h | h
          · exact .inr (.inr (.inr (.inl h)))
          · exact .inr (.inr (.inl h))
          · exact .inr (.inl h)
          · exact .inr (.inr (.inr (.inr ⟨o.nm, HSNE.out, by rw [HRO.out]; exact h⟩))))
        have hsz := hall7.size
        exact ⟨⟨fun k hk => by have := HREST.out.1 k hk; omega, a, MS, MO, FA, _, ro, n1, n2 + 1, m7, _, fs', hx7, fun k hk => HREST.out.2 k (drop_foot hk)⟩, hall7.mono (fun k _ h => hFF k h)⟩
      have HFIN := Lib.hid hfin
      have HM6 := Lib.hid hM6
      have HF6 := Lib.hid hfs6
      clear hfin hM6 hfs6 hA6 hMO6 hup d2 hlook
      cases hrs : rest with
      | nil =>
        rw [hrs] at hlk6
        have hln : ((([] : List Int).length : Nat) : Int) = 0 := rfl
        simp only [List.length_nil] at hlk6
        go_wp2_with (refine wpList_mg_drop rfl (.tmp 53) (.tmp 54) 83 rfl HM6.out msk Try.underlying83 (slit_ok o.nm) (mskey hnm) rfl rfl ?_; intro w7 hM7 hs7)
        go_ret
        obtain ⟨r1, r2⟩ := HFIN.out w7 _ _ hs7 hM7 (fun s => by
          unfold delF
          by_cases e : s = o.nm
          · rw [e, if_pos (sameKey_self (slit_ok _)), if_pos rfl, if_pos hrs]
          · have ek : slit s ≠ slit o.nm := fun e' => e (slit_inj e')
            rw [if_neg (by rw [Go.Maps.sameKey_ne ek]; simp), if_neg e, HF6.out, if_neg e])
        exact ⟨rfl, r1, r2⟩
      | cons y ys =>
        have hq : ((rest.length : Int) == 0) = false := by rw [hrs, List.length_cons, beq_eq_false_iff_ne]; omega
        have HRS := Lib.hid hrs
        clear hrs
        generalize hrl : rest.length = rl at *
        have HRL := Lib.hid hrl
        clear hrl
        go_wp2
        go_ret
        obtain ⟨r1, r2⟩ := HFIN.out w6 _ _ (Step.refl _ _) HM6.out (fun s => by
          rw [HF6.out]
          by_cases e : s = o.nm
          · rw [if_pos e, if_pos e, if_neg (by rw [HRS.out]; simp)]
          · rw [if_neg e, if_neg e])
        exact ⟨rfl, r1, r2⟩
end Go.Proofs.Ytgohlbljdffelaa.Idl
