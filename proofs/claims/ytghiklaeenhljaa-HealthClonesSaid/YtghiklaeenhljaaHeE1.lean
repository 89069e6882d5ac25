/- health and the document's lists of it: plain law. Own work of this seat; no condition. -/
import Derived.Test.YtghiklaeenhljaaHeD8
namespace Go.Proofs.Ytghiklaeenhljaa.HeD
open Go.RowKit Go.Proofs.Ytghiklaeenhljaa.Kit Go.Proofs.Ytghiklaeenhljaa.It Go.Proofs.Ytghiklaeenhljaa.Hea Go.Proofs.Ytghiklaeenhljaa.AgP Go.Proofs.YtghiklaeenhljaaW.PrintWords Go.Proofs.Ytghiklaeenhljaa
set_option linter.unusedVariables false
set_option linter.unusedSimpArgs false

theorem ltB_iff (a b : ByteArray) : ltB a b = true ↔ a.data.toList < b.data.toList := by
  unfold ltB
  rw [bytesLess_eq, ByteArray.toList_eq, ByteArray.toList_eq]
  simp
theorem ltB_irr (a : ByteArray) : ltB a a = false := by
  cases h : ltB a a with
  | false => rfl
  | true => exact absurd ((ltB_iff a a).1 h) (List.lt_irrefl _)
theorem ltB_tr {a b c : ByteArray} (h : ltB a b = true) (k : ltB b c = true) : ltB a c = true := (ltB_iff _ _).2 (List.lt_trans ((ltB_iff _ _).1 h) ((ltB_iff _ _).1 k))
theorem ltB_tot {a b : ByteArray} (h : ltB a b = false) (hn : a ≠ b) : ltB b a = true := by
  rw [ltB_iff]
  have h1 : ¬ a.data.toList < b.data.toList := fun e => by rw [(ltB_iff a b).2 e] at h; cases h
  have h2 : b.data.toList ≤ a.data.toList := List.not_lt.1 h1
  refine Classical.byContradiction (fun h3 => hn ?_)
  have h4 : a.data.toList ≤ b.data.toList := List.not_lt.1 h3
  rw [← ba_eta a, ← ba_eta b, List.le_antisymm h4 h2]
theorem ltB_ne {a b : ByteArray} (h : ltB a b = true) : a ≠ b := fun e => by
  rw [e, ltB_irr] at h
  cases h

def SrtO (l : List Oe) : Prop := l.Pairwise (fun a b => ltB a.nm b.nm = true)
/-- put, plainly. -/
def insO : List Oe → Oe → List Oe
  | [], o => [o]
  | x :: r, o => if ltB x.nm o.nm = true then x :: insO r o else if x.nm = o.nm then o :: r else o :: x :: r
theorem fold_done (o : Oe) : ∀ (l acc : List Oe), l.foldl (stepP o) (acc, true) = (acc ++ l.filter (fun x => decide (x.nm ≠ o.nm)), true)
  | [], acc => by simp
  | x :: r, acc => by
    rw [List.foldl_cons]
    have e1 : stepP o (acc, true) x = (if x.nm = o.nm then acc else acc ++ [x], true) := by
      unfold stepP
      simp
    rw [e1, fold_done o r]
    by_cases e : x.nm = o.nm <;> simp [e]
theorem filter_gt {o : Oe} : ∀ {l : List Oe}, (∀ x ∈ l, ltB o.nm x.nm = true) → l.filter (fun x => decide (x.nm ≠ o.nm)) = l
  | l, h => by
    rw [List.filter_eq_self]
    intro x hx
    have := ltB_ne (h x hx)
    simp
    exact fun e => this e.symm
theorem fold_ins (o : Oe) : ∀ (l acc : List Oe), SrtO l → (if (l.foldl (stepP o) (acc, false)).2 = true then (l.foldl (stepP o) (acc, false)).1 else (l.foldl (stepP o) (acc, false)).1 ++ [o]) = acc ++ insO l o
  | [], acc, _ => by simp [insO]
  | x :: r, acc, h => by
    have hr : SrtO r := (List.pairwise_cons.1 h).2
    have hx := (List.pairwise_cons.1 h).1
    rw [List.foldl_cons]
    unfold insO
    by_cases hlt : ltB x.nm o.nm = true
    · have hne := ltB_ne hlt
      have e1 : stepP o (acc, false) x = (acc ++ [x], false) := by
        unfold stepP
        simp [hlt, hne]
      rw [e1, fold_ins o r _ hr, if_pos hlt]
      simp
    · have hlf : ltB x.nm o.nm = false := by simpa using hlt
      rw [if_neg hlt]
      by_cases he : x.nm = o.nm
      · have e1 : stepP o (acc, false) x = (acc ++ [o], true) := by
          unfold stepP
          simp [hlf, he]
          exact ltB_irr _
        rw [e1, fold_done, if_pos he, filter_gt (fun y hy => by rw [← he]; exact hx y hy)]
        simp
      · have hgt := ltB_tot hlf he
        have e1 : stepP o (acc, false) x = (acc ++ [o] ++ [x], true) := by
          unfold stepP
          simp [hlf, he]
        rw [e1, fold_done, if_neg he, filter_gt (fun y hy => ltB_tr hgt (hx y hy))]
        simp
theorem putO_ins {l : List Oe} (h : SrtO l) (o : Oe) : putO l o = insO l o := by
  have := fold_ins o l [] h
  unfold putO outP
  rw [this]
  rfl
theorem mem_ins {o : Oe} : ∀ {l : List Oe} {y : Oe}, y ∈ insO l o → y = o ∨ y ∈ l
  | [], y, h => by simp [insO] at h; exact .inl h
  | x :: r, y, h => by
    unfold insO at h
    split at h
    · rcases List.mem_cons.1 h with e | e
      · exact .inr (e ▸ List.mem_cons_self ..)
      · exact (mem_ins e).imp id (List.mem_cons_of_mem _)
    · split at h
      · rcases List.mem_cons.1 h with e | e
        · exact .inl e
        · exact .inr (List.mem_cons_of_mem _ e)
      · rcases List.mem_cons.1 h with e | e
        · exact .inl e
        · exact .inr e
theorem srt_ins {o : Oe} : ∀ {l : List Oe}, SrtO l → SrtO (insO l o)
  | [], _ => List.pairwise_singleton _ _
  | x :: r, h => by
    have hr := (List.pairwise_cons.1 h).2
    have hx := (List.pairwise_cons.1 h).1
    unfold insO
    by_cases hlt : ltB x.nm o.nm = true
    · rw [if_pos hlt]
      exact List.pairwise_cons.2 ⟨fun y hy => (mem_ins hy).elim (fun e => e ▸ hlt) (hx y), srt_ins hr⟩
    · rw [if_neg hlt]
      by_cases he : x.nm = o.nm
      · rw [if_pos he]
        exact List.pairwise_cons.2 ⟨fun y hy => by rw [← he]; exact hx y hy, hr⟩
      · rw [if_neg he]
        have hgt := ltB_tot (by simpa using hlt) he
        exact List.pairwise_cons.2 ⟨fun y hy => (List.mem_cons.1 hy).elim (fun e => e ▸ hgt) (fun e => ltB_tr hgt (hx y e)), h⟩
theorem get_ins {o : Oe} : ∀ {l : List Oe}, SrtO l → ∀ s, getO (insO l o) s = if s = o.nm then some o else getO l s
  | [], _, s => by
    unfold insO getO
    by_cases e : s = o.nm
    · simp [e]
    · rw [if_neg e]
      simp
      exact fun h => e h.symm
  | x :: r, h, s => by
    have hr := (List.pairwise_cons.1 h).2
    have hx := (List.pairwise_cons.1 h).1
    have ih := get_ins (o := o) hr s
    unfold getO at ih ⊢
    unfold insO
    by_cases hlt : ltB x.nm o.nm = true
    · rw [if_pos hlt, List.find?_cons, List.find?_cons, ih]
      by_cases e : x.nm = s
      · have : ¬ s = o.nm := fun e2 => ltB_ne hlt (e.trans e2)
        simp [e, this]
      · simp [e]
    · rw [if_neg hlt]
      by_cases he : x.nm = o.nm
      · rw [if_pos he, List.find?_cons, List.find?_cons]
        by_cases e : s = o.nm
        · simp [e]
        · have h1 : ¬ o.nm = s := fun h => e h.symm
          have h2 : ¬ x.nm = s := fun h => e (h.symm.trans he)
          simp [e, h1, h2]
      · rw [if_neg he, List.find?_cons]
        by_cases e : s = o.nm
        · simp [e]
        · have h1 : ¬ o.nm = s := fun h => e h.symm
          simp [e, h1]
theorem len_ins {o : Oe} : ∀ {l : List Oe}, SrtO l → (insO l o).length = if (getO l o.nm).isSome = true then l.length else l.length + 1
  | [], _ => by simp [insO, getO]
  | x :: r, h => by
    have hr := (List.pairwise_cons.1 h).2
    have hx := (List.pairwise_cons.1 h).1
    have ih := len_ins (o := o) hr
    unfold getO at ih ⊢
    unfold insO
    by_cases hlt : ltB x.nm o.nm = true
    · have hne := ltB_ne hlt
      rw [if_pos hlt, List.find?_cons, List.length_cons, ih]
      simp [hne]
      split <;> rfl
    · rw [if_neg hlt]
      by_cases he : x.nm = o.nm
      · rw [if_pos he, List.find?_cons]
        simp [he]
      · have hgt := ltB_tot (by simpa using hlt) he
        have hno : r.find? (fun y => decide (y.nm = o.nm)) = none := List.find?_eq_none.2 (fun y hy => by
          have := ltB_ne (ltB_tr hgt (hx y hy))
          simp
          exact fun e => this e.symm)
        rw [if_neg he, List.find?_cons, hno]
        simp [he]

def its (L : List (Ev ByteArray)) : List It := L.map (fun s => ⟨s.key, s.tm⟩)
theorem its_length (L : List (Ev ByteArray)) : (its L).length = L.length := List.length_map ..
theorem its_drop (L : List (Ev ByteArray)) (k : ByteArray) : its (dropL L k) = itDrop (its L) k := by
  unfold its dropL itDrop
  rw [List.filter_map]
  rfl
theorem its_ins (L : List (Ev ByteArray)) (k : ByteArray) (n t : Int) : its (insL L ⟨k, n, t⟩) = itIns (its L) ⟨k, n⟩ := by
  unfold its insL itIns
  rw [List.takeWhile_map, List.dropWhile_map, List.map_append, List.map_cons]
  rfl
theorem its_tim (L : List (Ev ByteArray)) (t : Nat) (s : ByteArray) {v : Int} (h : 0 ≤ v) : its (timL L t s v).1 = timI (its L) s v := by
  unfold timL timI
  by_cases hv : v ≤ 1099511627776
  · rw [if_pos hv, if_pos hv]
    show its (setL L s v _) = itSet _ _ _
    have hc : clipI v = v := by unfold clipI; omega
    unfold setL itSet
    rw [its_ins, its_drop, hc]
  · rw [if_neg hv, if_neg hv]
    exact its_drop _ _

/-- The document's row says what health says. -/
structure Mt (q : ByteArray → Option Ho) (l : List Oe) : Prop where
  srt : SrtO l
  get : ∀ s, getO l s = (q s).map (fun x => (⟨s, x.pb, x.waits⟩ : Oe))
theorem Mt.put {q : ByteArray → Option Ho} {l : List Oe} (h : Mt q l) (s : ByteArray) (x : Ho) : Mt (setQ q s (some x)) (putO l ⟨s, x.pb, x.waits⟩) := by
  rw [putO_ins h.srt]
  refine ⟨srt_ins h.srt, fun r => ?_⟩
  rw [get_ins h.srt, h.get r]
  unfold setQ
  by_cases e : r = s
  · subst e; simp
  · simp [e]
theorem Mt.rem {q : ByteArray → Option Ho} {l : List Oe} (h : Mt q l) (s : ByteArray) : Mt (setQ q s none) (remO l s) := by
  refine ⟨List.Pairwise.filter _ h.srt, fun r => ?_⟩
  have hg := h.get r
  unfold setQ
  by_cases e : r = s
  · rw [if_pos e]
    unfold getO remO
    rw [List.find?_eq_none.2]
    · rfl
    · intro x hx
      have := (List.mem_filter.1 hx).2
      simp at this ⊢
      rw [e]
      exact this
  · rw [if_neg e, ← hg]
    unfold getO remO
    rw [List.find?_filter]
    congr 1
    funext x
    by_cases e2 : x.nm = r
    · have : x.nm ≠ s := fun e3 => e (e2.symm.trans e3)
      simp [e2, this]
      exact e
    · simp [e2]
theorem Mt.none {q : ByteArray → Option Ho} {l : List Oe} (h : Mt q l) {s : ByteArray} (hq : q s = .none) : getO l s = .none := by rw [h.get, hq]; rfl
theorem Mt.some {q : ByteArray → Option Ho} {l : List Oe} (h : Mt q l) {s : ByteArray} {x : Ho} (hq : q s = .some x) : getO l s = .some ⟨s, x.pb, x.waits⟩ := by rw [h.get, hq]; rfl
theorem Mt.len_put {q : ByteArray → Option Ho} {l : List Oe} (h : Mt q l) (s : ByteArray) (x : Ho) : (putO l ⟨s, x.pb, x.waits⟩).length ≤ l.length + 1 ∧ ((q s).isSome = true → (putO l ⟨s, x.pb, x.waits⟩).length = l.length) := by
  rw [putO_ins h.srt, len_ins h.srt, h.get]
  cases q s <;> simp
theorem mt_nil : Mt (fun _ => .none) [] := ⟨List.Pairwise.nil, fun s => rfl⟩
theorem Mt.names {q : ByteArray → Option Ho} {l : List Oe} (h : Mt q l) : Names (l.map (·.nm)) q := by
  refine ⟨?_, fun s => ?_, ?_⟩
  · exact List.Pairwise.map _ (fun a b hab => ltB_ne hab) h.srt
  · have hg := h.get s
    constructor
    · intro hs
      obtain ⟨x, hx, rfl⟩ := List.mem_map.1 hs
      cases hq : q x.nm with
      | some y => rfl
      | none =>
        rw [hq] at hg
        unfold getO at hg
        have := List.find?_eq_none.1 hg x hx
        simp at this
    · intro hs
      obtain ⟨y, hy⟩ := Option.isSome_iff_exists.1 hs
      rw [hy] at hg
      unfold getO at hg
      have h1 := List.mem_of_find?_eq_some hg
      exact List.mem_map.2 ⟨_, h1, rfl⟩
  · exact List.Pairwise.map _ (fun a b hab => List.le_of_lt ((ltB_iff _ _).1 hab)) h.srt

/-- Run of both: what health runs through, the document does. -/
theorem runs_d {c : Cf} (hc : CfOk c) {now : Int} {S R : Hs} (h : Runs c now S R) : ∀ {k : ByteArray → Int} {l : List Oe} {ev : List Evn}, AJ c S k → Mt S.q l → (∀ s x, S.q s = some x → PbOk x.pb) → (∀ e ∈ S.L, e.tm ≤ 1099511627776) → l.length ≤ 1000 → S.L.length ≤ 1000 → (0 ≤ S.ep ∧ S.ep + Hea.load now S.L ≤ 1000000) →
    ∃ l', RunsD c now ⟨l, its S.L, S.ep, S.ev⟩ ⟨l', its R.L, R.ep, R.ev⟩ ∧ Mt R.q l' ∧ l'.length = l.length := by
  induction h with
  | stop S h =>
    intro k l ev hk hm hp ht hl hL hep
    refine ⟨l, .stop _ (fun x hx => ?_), hm, rfl⟩
    cases hLS : S.L with
    | nil => simp only [hLS, its] at hx; cases hx
    | cons s r =>
      have h1 := h s (by rw [hLS]; rfl)
      simp only [hLS, its, List.map_cons, List.head?_cons, Option.mem_some_iff] at hx
      subst hx
      exact h1
  | step S R s r e h k ih =>
    intro kk l ev hk hm hp ht hl hL hep
    obtain ⟨hk2, _, _⟩ := aj_step hc hk e
    have hsome := hk.mem s (by rw [e]; exact List.mem_cons_self ..)
    obtain ⟨x, hx⟩ := Option.isSome_iff_exists.1 hsome
    have hgo := hm.some hx
    have hnd := hk.nd
    rw [e] at hnd
    have hls := load_step hc hnd h x S.t
    have htm0 := hk.tm0 s (by rw [e]; exact List.mem_cons_self ..)
    have htm1 := ht s (by rw [e]; exact List.mem_cons_self ..)
    have hpx := hp _ _ hx
    have hnb := turN_bd x c s.tm S.ep
    have hv0 : 0 ≤ turV x c s.tm := by
      obtain ⟨h1, h2, _⟩ := hc
      unfold turV
      split <;> omega
    have hstep : dstep c ⟨l, its S.L, S.ep, S.ev⟩ ⟨s.key, s.tm⟩ (its r) = ⟨putO l ⟨s.key, (turQ x c s.tm).pb, (turQ x c s.tm).waits⟩, its (timL r S.t s.key (turV x c s.tm)).1, turN x c s.tm S.ep, S.ev ++ turE x c s.key s.tm⟩ := by
      unfold dstep turQ turN turE
      rw [its_tim _ _ _ hv0]
      unfold turV
      simp only [hgo, Option.getD_some]
      cases x.waits <;> simp
    have hSH : stepH c S s r = ⟨setQ S.q s.key (some (turQ x c s.tm)), (timL r S.t s.key (turV x c s.tm)).1, (timL r S.t s.key (turV x c s.tm)).2, turN x c s.tm S.ep, S.ev ++ turE x c s.key s.tm⟩ := by
      unfold stepH
      rw [hx]
      rfl
    rw [hSH] at ih hk2
    have hl2 := (hm.len_put s.key (turQ x c s.tm)).2 hsome
    have hlt := timL_len r S.t s.key (turV x c s.tm)
    have hLe : S.L.length = r.length + 1 := by rw [e]; rfl
    have hld : Hea.load now S.L = Hea.load now (s :: r) := by rw [e]
    obtain ⟨l', hR, hM, hlen⟩ := ih (ev := ev) hk2 (hm.put s.key (turQ x c s.tm)) (fun y z hy => by
      simp only [setQ] at hy
      split at hy
      · obtain rfl := Option.some.inj hy
        unfold turQ
        split
        · exact resP_ok hpx hc _ _
        · exact hpx
      · exact hp y z hy) (fun y hy => by
      rcases timL_mem hy with ⟨_, h2⟩ | ⟨h1, _⟩
      · simp only [timL] at hy
        split at hy
        · rename_i hle
          rw [h2]; exact hle
        · exact ht y (by rw [e]; exact List.mem_cons_of_mem _ (mem_drop.1 hy).1)
      · exact ht y (by rw [e]; exact List.mem_cons_of_mem _ h1)) (by rw [hl2]; exact hl) (by simp only; omega) (by simp only; omega)
    refine ⟨l', .step _ _ ⟨s.key, s.tm⟩ (its r) (by rw [e]; rfl) h (by rw [hgo]; exact hpx) ⟨htm0, htm1⟩ ⟨hl, by rw [its_length]; exact hL, by simp only; omega⟩ ?_, hM, by rw [hlen, hl2]⟩
    rw [hstep]
    exact hR
end Go.Proofs.Ytghiklaeenhljaa.HeD
