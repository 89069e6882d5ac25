/- Lemmas and walks of the texts AgHStr, AgIStr, AgSStr, AgTStr, Hea2, Hea3, Hea4, Hea5, Hea13, Hea6, Hea7, Hea8, Hea10, Hea11, Hea12, Hea14, Hea15, Hea16, Hea9, Hea17, Hea18, Hea19, Hea20, MInt, Cut, Base, Hea21, Hea22, one behind the other: no condition. Own work of this seat. -/
import Derived.Test.YtghiklaeenhljaaMHealthEpochs1
import Derived.Test.YtghiklaeenhljaaIter
import Derived.Test.YtghiklaeenhljaaWWords
import Derived.Deep.RegionHeld3
import Derived.Laws.Rows
import Derived.ChangeArms
import Derived.Deep.Slices
import Derived.ChangeOld
import Derived.Carry
import Derived.SizedLaws
import Derived.DataReads
import Derived.OpenShut
/- agenda: an agenda in memory, as its sorted list; New, Len, First. Own work of this seat. -/
namespace Go.Proofs.Ytghiklaeenhljaa.AgStr
open Go.RowKit Go.Proofs.Ytghiklaeenhljaa.Kit Go.Proofs.Ytghiklaeenhljaa.Cmp Go.Proofs.Ytghiklaeenhljaa.HeapP Go.Proofs.Ytghiklaeenhljaa.AgP
set_option linter.unusedVariables false
set_option linter.unusedSimpArgs false

def KOk (k : ByteArray) : Prop := k.size ≤ 1000
theorem kkey {k : ByteArray} (h : KOk k) : keyOf Try.prog 9 (Value.string k) = some (slit k) := skey Try.underlying9 (Nat.le_trans h (by omega))
theorem kkeyed : Go.Maps.Keyed Try.prog 9 := Go.Maps.string_keyed Try.underlying9
def proj (x : It) : Ev ByteArray := ⟨x.key, x.tm, x.turn⟩
/-- The map's function: under each key the item that bears it. -/
def Fm (f : Lit → Option Value) (xs : List It) : Prop := ∀ k, (∀ x ∈ xs, x.key = k → f (slit k) = some (ptr x)) ∧ ((∀ x ∈ xs, x.key ≠ k) → f (slit k) = none)
theorem Fm.perm {f : Lit → Option Value} {xs ys : List It} (h : Fm f xs) (hp : ys.Perm xs) : Fm f ys := fun k =>
  ⟨fun x hx => (h k).1 x (hp.mem_iff.1 hx), fun hn => (h k).2 (fun x hx => hn x (hp.mem_iff.2 hx))⟩
theorem Fm.put {f : Lit → Option Value} {xs : List It} (h : Fm f xs) {x : It} (hn : ∀ y ∈ xs, y.key ≠ x.key) : Fm (putF f (slit x.key) (ptr x)) (xs ++ [x]) := by
  intro k
  unfold putF
  by_cases e : k = x.key
  · subst e
    rw [if_pos (sameKey_self (slit_ok _))]
    refine ⟨fun y hy hk => ?_, fun hall => absurd rfl (hall x (by simp))⟩
    rcases List.mem_append.1 hy with hy | hy
    · exact absurd hk (hn y hy)
    · obtain rfl : y = x := by simpa using hy
      rfl
  · have ek : slit k ≠ slit x.key := fun e' => e (slit_inj e')
    rw [if_neg (by rw [Go.Maps.sameKey_ne ek]; simp)]
    refine ⟨fun y hy hk => ?_, fun hall => (h k).2 (fun y hy => hall y (by simp [hy]))⟩
    rcases List.mem_append.1 hy with hy | hy
    · exact (h k).1 y hy hk
    · obtain rfl : y = x := by simpa using hy
      exact absurd hk.symm e
theorem Fm.del {f : Lit → Option Value} {r : List It} {x : It} (h : Fm f (x :: r)) (hn : ∀ y ∈ r, y.key ≠ x.key) : Fm (delF f (slit x.key)) r := by
  intro k
  unfold delF
  by_cases e : k = x.key
  · subst e
    rw [if_pos (sameKey_self (slit_ok _))]
    exact ⟨fun y hy hk => absurd hk (hn y hy), fun _ => rfl⟩
  · have ek : slit k ≠ slit x.key := fun e' => e (slit_inj e')
    rw [if_neg (by rw [Go.Maps.sameKey_ne ek]; simp)]
    refine ⟨fun y hy hk => (h k).1 y (by simp [hy]) hk, fun hall => (h k).2 (fun y hy => ?_)⟩
    rcases List.mem_cons.1 hy with rfl | hy
    · exact fun e' => e e'.symm
    · exact hall y hy
theorem Fm.nodup {f : Lit → Option Value} {xs : List It} (h : Fm f xs) (hn : (xs.map (·.blk)).Nodup) : (xs.map (·.key)).Nodup := by
  unfold List.Nodup at hn ⊢
  rw [List.pairwise_map] at hn ⊢
  refine hn.imp_of_mem fun {x y} hx hy hb e => hb ?_
  have h1 := (h y.key).1 x hx e
  have h2 := (h y.key).1 y hy rfl
  rw [h1] at h2
  unfold ptr at h2
  injection h2 with h2
  injection h2 with h2
  injection h2 with h2
  injection h2

structure AgX (w : World) (a : Nat) (A : Option Addr) (c M m n : Nat) (f : Lit → Option Value) (xs : List It) (t : Nat) : Prop where
  hm : HM w a (.map (some M)) (t : Int) A c xs
  hp : HeapG le (lg xs) xs.length
  mg : MG Try.prog 9 w M n m f
  fm : Fm f xs
  ne : M ≠ a ∧ blockOf A ≠ some M ∧ ∀ x ∈ xs, x.blk ≠ M
  kok : ∀ x ∈ xs, KOk x.key
  nt : n ≤ t
  lt : xs.length ≤ t
/-- The agenda at a, which may own the blocks of F, is L: sorted; t is how many were set. -/
def AgR (w : World) (a : Nat) (F : Nat → Prop) (L : List (Ev ByteArray)) (t : Nat) : Prop :=
  Sorted L ∧ (∀ s ∈ L, s.turn ≤ (t : Int)) ∧ (∀ k, F k → k < w.heap.size) ∧ ∃ xs A c M m n f, AgX w a A c M m n f xs t ∧ (xs.map proj).Perm L ∧ ∀ k, k = a ∨ k = M ∨ foot A xs k → F k
theorem AgR.keep {w w' : World} {a : Nat} {F G : Nat → Prop} {L : List (Ev ByteArray)} {t : Nat} (h : AgR w a F L t) (hs : Step G w w') (hd : ∀ k, F k → ¬ G k) : AgR w' a F L t := by
  obtain ⟨h1, h2, h3, xs, A, c, M, m, n, f, hx, hp, hF⟩ := h
  have hsz := hs.size
  refine ⟨h1, h2, fun k hk => by have := h3 k hk; omega, xs, A, c, M, m, n, f, ⟨hx.hm.still hs (hd _ (hF _ (.inl rfl))) (fun k hk => hd k (hF k (.inr (.inr hk)))), hx.hp, hx.mg.keep hs (hd _ (hF _ (.inr (.inl rfl)))), hx.fm, hx.ne, hx.kok, hx.nt, hx.lt⟩, hp, hF⟩
theorem AgR.same {w w' : World} {a : Nat} {F : Nat → Prop} {L : List (Ev ByteArray)} {t : Nat} (h : AgR w a F L t) (hs : Step (fun _ => False) w w') : AgR w' a F L t := h.keep hs (fun _ _ h => h)
theorem AgR.lt {w : World} {a : Nat} {F : Nat → Prop} {L : List (Ev ByteArray)} {t : Nat} (h : AgR w a F L t) {k : Nat} (hk : F k) : k < w.heap.size := h.2.2.1 k hk
theorem AgR.own {w : World} {a : Nat} {F : Nat → Prop} {L : List (Ev ByteArray)} {t : Nat} (h : AgR w a F L t) : F a := by
  obtain ⟨h1, h2, h3, xs, A, c, M, m, n, f, hx, hp, hF⟩ := h
  exact hF a (.inl rfl)
theorem AgR.sorted {w : World} {a : Nat} {F : Nat → Prop} {L : List (Ev ByteArray)} {t : Nat} (h : AgR w a F L t) : Sorted L := h.1
theorem AgR.nodup {w : World} {a : Nat} {F : Nat → Prop} {L : List (Ev ByteArray)} {t : Nat} (h : AgR w a F L t) : (L.map (·.key)).Nodup := by
  obtain ⟨h1, h2, h3, xs, A, c, M, m, n, f, hx, hp, hF⟩ := h
  have := hx.fm.nodup hx.hm.nd
  have h4 := (hp.map (·.key)).nodup_iff.1 (by rw [List.map_map]; exact this)
  exact h4
theorem AgR.kok {w : World} {a : Nat} {F : Nat → Prop} {L : List (Ev ByteArray)} {t : Nat} (h : AgR w a F L t) : ∀ s ∈ L, KOk s.key := by
  obtain ⟨h1, h2, h3, xs, A, c, M, m, n, f, hx, hp, hF⟩ := h
  intro s hs
  obtain ⟨x, hx', rfl⟩ := List.mem_map.1 (hp.mem_iff.2 hs)
  exact hx.kok x hx'
theorem AgR.len_le {w : World} {a : Nat} {F : Nat → Prop} {L : List (Ev ByteArray)} {t : Nat} (h : AgR w a F L t) : L.length ≤ t := by
  obtain ⟨h1, h2, h3, xs, A, c, M, m, n, f, hx, hp, hF⟩ := h
  have := hp.length_eq
  rw [List.length_map] at this
  have := hx.lt
  omega
/-- The first one of the pile is the least. -/
theorem top {xs : List It} {L : List (Ev ByteArray)} (hh : HeapG le (lg xs) xs.length) (hp : (xs.map proj).Perm L) (hs : Sorted L) {s : Ev ByteArray} {r : List (Ev ByteArray)} (e : L = s :: r) : xs.length = r.length + 1 ∧ proj (lg xs 0) = s := by
  subst e
  have hl := hp.length_eq
  rw [List.length_map, List.length_cons] at hl
  refine ⟨hl, ?_⟩
  cases xs with
  | nil => simp at hl
  | cons x xs =>
    have hm : ∀ y ∈ s :: r, ¬ ltE y (proj x) := by
      intro y hy
      obtain ⟨z, hz, rfl⟩ := List.mem_map.1 (hp.mem_iff.2 hy)
      obtain ⟨i, hi⟩ := List.getElem?_of_mem hz
      have hil := (List.getElem?_eq_some_iff.1 hi).1
      have h1 := heap_min le_tr le_rf hh i hil
      rw [lg_some hi, show lg (x :: xs) 0 = x from rfl, le_iff] at h1
      exact h1
    obtain ⟨L', e, _⟩ := head_least hs (by simpa using hp) hm
    injection e with e1 e2
    exact e1.symm
theorem empty {xs : List It} (hp : (xs.map proj).Perm []) : xs = [] := by
  have := hp.length_eq
  cases xs with
  | nil => rfl
  | cons x xs => simp at this

set_option maxRecDepth 100000 in
set_option maxHeartbeats 1000000 in
theorem new_calls (w : World) : Calls Try.prog 27 #[] w fun e w' => ∃ a F, e = .returned (.pointer (some ⟨a, 0, none⟩)) ∧ AgR w' a F [] 0 ∧ Step (fun _ => False) w w' ∧ ∀ k, F k → w.heap.size ≤ k := by
  have hmm := @run_makeMap Try.prog
  go_enter Try.func27, Try.ntmps27
  go_wp2
  go_ret
  refine ⟨_, fun k => k = w.heap.size ∨ k = w.heap.size + 1, rfl, ?_, ((Step.refl _ _).alloc _).alloc _, fun k hk => by omega⟩
  have hz : ∀ o : Obj, (w.alloc o).heap.size = w.heap.size + 1 := fun o => by show (w.heap.push _).size = _; simp
  have hM := (mg_new Try.prog 9 w).keep (((Step.refl (fun _ => False) (w.alloc (.map #[] 0))).alloc (.cells #[.slice none 0 0, .map (some w.heap.size), .int .i64 0] 114))) (fun h => h)
  have hB := blk_new (w.alloc (.map #[] 0)) [.slice none 0 0, .map (some w.heap.size), .int .i64 0] 114
  rw [hz] at hB
  refine ⟨List.Pairwise.nil, fun s h => by simp at h, fun k hk => ?_, [], none, 0, w.heap.size, 0, 0, fun _ => none, ⟨⟨hB, fseg_nil _ _ _, fun i x h => by simp at h, List.Pairwise.nil, fun x h => by simp at h, fun h => by cases h⟩, fun k h0 h1 => absurd h1 (by simp), hM, fun k => ⟨fun x h => by simp at h, fun _ => rfl⟩, ⟨by omega, (fun h => by cases h), fun x h => by simp at h⟩, fun x h => by simp at h, Nat.le_refl _, Nat.le_refl _⟩, List.Perm.refl _, fun k hk => ?_⟩
  · have h2 : ((w.alloc (.map #[] 0)).alloc (.cells #[.slice none 0 0, .map (some w.heap.size), .int .i64 0] 114)).heap.size = w.heap.size + 2 := by show ((w.heap.push _).push _).size = _; simp
    rw [h2]
    omega
  · rcases hk with e | e | e | ⟨x, h, _⟩
    · exact .inr e
    · exact .inl e
    · cases e
    · simp at h

def firstL (L : List (Ev ByteArray)) : Int × Bool := match L with | [] => (0, false) | s :: _ => (s.tm, true)
theorem first_calls {w : World} {a : Nat} {F : Nat → Prop} {L : List (Ev ByteArray)} {t : Nat} (h : AgR w a F L t) (ht : t ≤ 1000000) : Calls Try.prog 31 #[.pointer (some ⟨a, 0, none⟩)] w fun e w' => e = .returned (.tuple #[.int .i64 (firstL L).1, .bool (firstL L).2]) ∧ w = w' := by
  obtain ⟨h1, h2, h3, xs, A, c, M, m, n, f, hx, hp, hF⟩ := h
  have c0 := hx.hm.cell0
  have hlt := hx.lt
  cases L with
  | nil =>
    obtain rfl := empty hp
    simp only [List.length_nil] at c0
    unfold firstL
    go_enter Try.func31, Try.ntmps31
    go_wp2
    go_ret2
    exact ⟨rfl, rfl⟩
  | cons s r =>
    obtain ⟨hl, e⟩ := top hx.hp hp h1 rfl
    obtain ⟨g, rfl, hci, hbi⟩ := hx.hm.pick (i := 0) (by omega)
    have d1 := hbi.cell (i := 1) rfl
    have hle := hx.hm.row.le
    have q0 : ((xs.length : Int) == 0) = false := by rw [beq_eq_false_iff_ne]; omega
    have q1 : (0 : Int) < (xs.length : Int) := by omega
    have es : (lg xs 0).tm = s.tm := by rw [← e]; rfl
    rw [es] at d1
    unfold firstL
    simp only
    clear e es hl hx hp hF h1 h2 h3 hbi
    generalize xs.length = q at *
    generalize (lg xs 0).blk = b at *
    go_enter Try.func31, Try.ntmps31
    go_wp2
    go_ret2
    exact ⟨rfl, rfl⟩
end Go.Proofs.Ytghiklaeenhljaa.AgStr

/- agenda: Pop, At, Drop. Own work of this seat. -/
namespace Go.Proofs.Ytghiklaeenhljaa.AgStr
open Go.RowKit Go.Proofs.Ytghiklaeenhljaa.Kit Go.Proofs.Ytghiklaeenhljaa.Cmp Go.Proofs.Ytghiklaeenhljaa.HeapP Go.Proofs.Ytghiklaeenhljaa.AgP
set_option linter.unusedVariables false
set_option linter.unusedSimpArgs false

/-- What is popped, up to a tick. -/
def popL (L : List (Ev ByteArray)) (now : Int) : List (Ev ByteArray) := match L with | [] => [] | s :: r => if now < s.tm then s :: r else r
def popV (L : List (Ev ByteArray)) (now : Int) : ByteArray × Int × Bool := match L with | [] => ((⟨#[]⟩ : ByteArray), 0, false) | s :: r => if now < s.tm then ((⟨#[]⟩ : ByteArray), 0, false) else (s.key, s.tm, true)

/-- An agenda out of its parts, behind a step that took one item out. -/
theorem AgX.off {w w' : World} {a : Nat} {A : Option Addr} {c M m n m' : Nat} {f : Lit → Option Value} {xs ys : List It} {x : It} {t : Nat} (h : AgX w a A c M m n f xs t) (hy : HM w' a (.map (some M)) (t : Int) A c ys) (hp : (x :: ys).Perm xs) (hh : HeapG le (lg ys) ys.length) (hm : MG Try.prog 9 w' M n m' (delF f (slit x.key))) : AgX w' a A c M m' n (delF f (slit x.key)) ys t := by
  have hsub : ∀ y ∈ ys, y ∈ xs := fun y hy => hp.mem_iff.1 (List.mem_cons_of_mem _ hy)
  have hfm := h.fm.perm hp
  have hnd : ((x :: ys).map (·.key)).Nodup := hfm.nodup ((hp.map (·.blk)).nodup_iff.2 h.hm.nd)
  rw [List.map_cons, List.nodup_cons] at hnd
  refine ⟨hy, hh, hm, hfm.del (fun y hy e => hnd.1 (e ▸ List.mem_map_of_mem hy)), ⟨h.ne.1, h.ne.2.1, fun y hy => h.ne.2.2 y (hsub y hy)⟩, fun y hy => h.kok y (hsub y hy), h.nt, ?_⟩
  have := hp.length_eq
  rw [List.length_cons] at this
  have := h.lt
  omega

set_option maxRecDepth 100000 in
set_option maxHeartbeats 1000000 in
theorem apop_calls {w : World} {a : Nat} {F : Nat → Prop} {L : List (Ev ByteArray)} {t : Nat} (h : AgR w a F L t) (ht : t ≤ 100000) (now : Int) :
    Calls Try.prog 32 #[.pointer (some ⟨a, 0, none⟩), .int .i64 now] w fun e w' => e = .returned (.tuple #[Value.string (popV L now).1, .int .i64 (popV L now).2.1, .bool (popV L now).2.2]) ∧ AgR w' a F (popL L now) t ∧ Step F w w' := by
  have HF := first_calls h (by omega)
  obtain ⟨h1, h2, h3, xs, A, c, M, m, n, f, hx, hp, hF⟩ := id h
  cases L with
  | nil =>
    unfold firstL at HF
    unfold popV popL
    simp only at HF ⊢
    clear hx hp hF h1 h2 h3
    go_enter Try.func32, Try.ntmps32
    go_wp2_with (go_at_call 31; refine HF.mono ?_; rintro e w1 ⟨rfl, rfl⟩)
    go_ret3
    exact ⟨rfl, h, Step.refl _ _⟩
  | cons s r =>
    unfold firstL at HF
    unfold popV popL
    simp only at HF ⊢
    by_cases hnow : now < s.tm
    · simp only [if_pos hnow]
      clear hx hp hF h1 h2 h3
      go_enter Try.func32, Try.ntmps32
      go_wp2_with (go_at_call 31; refine HF.mono ?_; rintro e w1 ⟨rfl, rfl⟩)
      go_ret3
      exact ⟨rfl, h, Step.refl _ _⟩
    · simp only [if_neg hnow]
      obtain ⟨hl, es⟩ := top hx.hp hp h1 rfl
      have HP := hpop_calls hx.hm (m := r.length) hl (by have := hx.lt; omega) hx.hp
      have hta : ∀ (b : Nat) (w : World), (Instr.typeAssert (.iface 118 (.pointer (some ⟨b, 0, none⟩))) 20 118 false).run Try.prog w = .ok (.pointer (some ⟨b, 0, none⟩)) w := fun _ _ => by kernel_rfl
      have hk : (lg xs 0).key = s.key := by rw [← es]; rfl
      have htm : (lg xs 0).tm = s.tm := by rw [← es]; rfl
      have hmem : lg xs 0 ∈ xs := lg_mem (by omega)
      have hkk := kkey (hx.kok _ hmem)
      have hfa := hF a (.inl rfl)
      have hff : ∀ k, k = a ∨ foot A xs k → F k := fun k hk => hF k (hk.imp id .inr)
      have H := Lib.hid hx
      have HPM := Lib.hid hp
      have hMf : ∀ k, (k = a ∨ foot A xs k) → k ≠ M := by
        rintro k (e | e | ⟨x, hx', e⟩) rfl
        · exact hx.ne.1 e
        · exact hx.ne.2.1 e
        · exact hx.ne.2.2 x hx' e
      have hMF := hF M (.inr (.inl rfl))
      have HREST := Lib.hid (⟨h2, h3, hF⟩ : (∀ q ∈ s :: r, q.turn ≤ (t : Int)) ∧ (∀ k, F k → k < w.heap.size) ∧ ∀ k, k = a ∨ k = M ∨ foot A xs k → F k)
      have HH1 := Lib.hid h1
      have HES := Lib.hid es
      rw [← htm] at hnow
      rw [← hk, ← htm]
      unfold ptr at HP
      rw [← htm] at HF
      clear h hx hp hF h1 h2 h3 hk htm hl es
      go_enter Try.func32, Try.ntmps32
      go_upto_region 5 with (first | (go_at_call 31; refine HF.mono ?_; rintro e w1 ⟨rfl, rfl⟩) | (go_at_call 51; refine HP.mono ?_; rintro e w2 ⟨rfl, ys, hys, hpy, hhy, ⟨p, hbx⟩, hs2⟩))
      have hM2 := H.out.mg.keep hs2 (fun e => hMf M e rfl)
      have c1 := hys.blk.cell (i := 1) rfl
      have d0 := hbx.cell (i := 0) rfl
      have d1 := hbx.cell (i := 1) rfl
      go_still_tail 8, (by kernel_rfl)
      go_wp2_with (refine wpList_mg_drop rfl (.tmp 32) (.tmp 36) 110 rfl (hM2.keep ((Step.refl (fun _ => False) _).drew) (fun h => h)) kkeyed Try.underlying110 (slit_ok _) hkk rfl rfl ?_; intro w3 hM3 hs3)
      have s23 : Step (· = M) w2 w3 := ((Step.refl (· = M) w2).drew).same hs3
      have hb3 := hbx.keep s23 (fun e => H.out.ne.2.2 _ hmem e)
      have e0 := hb3.cell (i := 0) rfl
      have e1 := hb3.cell (i := 1) rfl
      have hfin := H.out.off (hys.still s23 (fun e => H.out.ne.1 e.symm) (fun k hk e => hMf k (.inr (by
        rcases hk with hk | ⟨y, hy, hk⟩
        · exact .inl hk
        · exact .inr ⟨y, hpy.mem_iff.1 (List.mem_cons_of_mem _ hy), hk⟩)) e)) hpy hhy hM3
      have HFIN := Lib.hid hfin
      have HPY := Lib.hid hpy
      clear c1 d0 d1 hfin hpy
      go_quiet (fail)
      go_wp2
      go_ret3
      have hpys : (ys.map proj).Perm r := by
        have q1 := HPY.out.map proj
        rw [List.map_cons, HES.out] at q1
        exact (List.perm_cons _).1 (q1.trans HPM.out)
      have hst : Step F w w3 := (hs2.mono (fun k _ h => hff k h)).same (s23.mono (fun k _ e => e ▸ hMF))
      have hsz := hst.size
      obtain ⟨r2, r3, r4⟩ := HREST.out
      have hok : AgR w3 a F r t := ⟨(List.pairwise_cons.1 HH1.out).2, fun q hq => r2 q (List.mem_cons_of_mem _ hq), fun k hk => by have := r3 k hk; omega, ys, A, c, M, _, n, _, HFIN.out, hpys, fun k hk => by
        rcases hk with e | e | e | ⟨y, hy, e⟩
        · exact r4 k (.inl e)
        · exact r4 k (.inr (.inl e))
        · exact r4 k (.inr (.inr (.inl e)))
        · exact r4 k (.inr (.inr (.inr ⟨y, HPY.out.mem_iff.1 (List.mem_cons_of_mem _ hy), e⟩)))⟩
      exact ⟨rfl, hok.same ((Step.refl _ _).drewN _), hst.drewN _⟩

/-- The item that bears a key. -/
theorem find_it {xs : List It} {L : List (Ev ByteArray)} (hp : (xs.map proj).Perm L) (hk : (L.map (·.key)).Nodup) (k : ByteArray) :
    (atL L k = none ∧ (∀ x ∈ xs, x.key ≠ k) ∧ ∀ s ∈ L, s.key ≠ k) ∨ ∃ (i : Nat) (x : It), xs[i]? = some x ∧ x.key = k ∧ atL L k = some (proj x) := by
  by_cases h : ∃ x ∈ xs, x.key = k
  · obtain ⟨x, hx, hxk⟩ := h
    obtain ⟨i, hi⟩ := List.getElem?_of_mem hx
    refine .inr ⟨i, x, hi, hxk, ?_⟩
    have hm : proj x ∈ L := hp.mem_iff.1 (List.mem_map_of_mem hx)
    cases hf : atL L k with
    | none =>
      have := List.find?_eq_none.1 hf (proj x) hm
      exact absurd (show (proj x).key = k from hxk) (by simpa using this)
    | some s =>
      have h1 := List.find?_some hf
      have h2 := List.mem_of_find?_eq_some hf
      simp only [decide_eq_true_eq] at h1
      obtain ⟨i1, e1⟩ := List.getElem?_of_mem h2
      obtain ⟨i2, e2⟩ := List.getElem?_of_mem hm
      have l1 := (List.getElem?_eq_some_iff.1 e1).1
      have l2 := (List.getElem?_eq_some_iff.1 e2).1
      have : i1 = i2 := by
        have g1 : (L.map (·.key))[i1]? = some k := by rw [List.getElem?_map, e1]; exact congrArg some h1
        have g2 : (L.map (·.key))[i2]? = some k := by rw [List.getElem?_map, e2]; exact congrArg some hxk
        have l1' : i1 < (L.map (·.key)).length := by simpa using l1
        have l2' : i2 < (L.map (·.key)).length := by simpa using l2
        rw [List.getElem?_eq_getElem l1'] at g1
        rw [List.getElem?_eq_getElem l2'] at g2
        have g := (Option.some.inj g1).trans (Option.some.inj g2).symm
        rcases Nat.lt_trichotomy i1 i2 with h | h | h
        · exact absurd g ((List.pairwise_iff_getElem.1 hk) i1 i2 l1' l2' h)
        · exact h
        · exact absurd g.symm ((List.pairwise_iff_getElem.1 hk) i2 i1 l2' l1' h)
      subst this
      rw [e1] at e2
      exact congrArg some (Option.some.inj e2)
  · have hn : ∀ x ∈ xs, x.key ≠ k := fun x hx e => h ⟨x, hx, e⟩
    have hL : ∀ s ∈ L, s.key ≠ k := fun s hs => by
      obtain ⟨x, hx, rfl⟩ := List.mem_map.1 (hp.mem_iff.2 hs)
      exact hn x hx
    exact .inl ⟨List.find?_eq_none.2 (fun s hs => by simpa using hL s hs), hn, hL⟩

theorem zptr (w : World) : (zeroValue 118).run Try.prog w = .ok (.pointer none) w := by kernel_rfl
def atV (L : List (Ev ByteArray)) (k : ByteArray) : Int × Bool := match atL L k with | none => (0, false) | some s => (s.tm, true)
end Go.Proofs.Ytghiklaeenhljaa.AgStr

/- agenda: Drop and Set. Own work of this seat. -/
namespace Go.Proofs.Ytghiklaeenhljaa.AgStr
open Go.RowKit Go.Proofs.Ytghiklaeenhljaa.Kit Go.Proofs.Ytghiklaeenhljaa.Cmp Go.Proofs.Ytghiklaeenhljaa.HeapP Go.Proofs.Ytghiklaeenhljaa.AgP
set_option linter.unusedVariables false
set_option linter.unusedSimpArgs false

set_option maxRecDepth 100000 in
set_option maxHeartbeats 1000000 in
theorem drop_calls {w : World} {a : Nat} {F : Nat → Prop} {L : List (Ev ByteArray)} {t : Nat} (h : AgR w a F L t) (ht : t ≤ 100000) {k : ByteArray} (hk : KOk k) :
    Calls Try.prog 40 #[.pointer (some ⟨a, 0, none⟩), Value.string k] w fun e w' => e = .returned (.bool (atL L k).isSome) ∧ AgR w' a F (dropL L k) t ∧ Step F w w' := by
  have hnd := h.nodup
  obtain ⟨h1, h2, h3, xs, A, c, M, m, n, f, hx, hp, hF⟩ := id h
  have c1 := hx.hm.blk.cell (i := 1) rfl
  have hlook := hx.mg.look_ok kkeyed Try.underlying110 (zptr w) (slit_ok k) (kkey hk)
  rcases find_it hp hnd k with ⟨e1, e2, e3⟩ | ⟨i, x, hi, hxk, e1⟩
  · rw [e1, drop_none e3]
    rw [(hx.fm k).2 e2] at hlook
    simp only [Option.getD_none, Option.isSome_none] at hlook ⊢
    clear hx hp hF h1 h2 h3 e1 e2 e3 hnd
    go_enter Try.func40, Try.ntmps40
    go_wp2
    go_ret
    exact ⟨rfl, h, Step.refl _ _⟩
  · rw [e1]
    rw [(hx.fm k).1 x (List.mem_of_getElem? hi) hxk] at hlook
    simp only [Option.getD_some, Option.isSome_some] at hlook ⊢
    have hil := (List.getElem?_eq_some_iff.1 hi).1
    have hbx := hx.hm.itm i x hi
    have d3 := hbx.cell (i := 3) rfl
    have hxlen := hx.lt
    obtain ⟨q, hq⟩ : ∃ q, xs.length = q + 1 := ⟨xs.length - 1, by omega⟩
    have HP := fun w' (hs : Step (fun _ => False) w w') => hremove_calls (hx.hm.same hs) (m := q) (i := i) hq (by omega) (by omega) hx.hp
    have hMf : ∀ k, (k = a ∨ foot A xs k) → k ≠ M := by
      rintro k (e | e | ⟨x, hx', e⟩) rfl
      · exact hx.ne.1 e
      · exact hx.ne.2.1 e
      · exact hx.ne.2.2 x hx' e
    have hMF := hF M (.inr (.inl rfl))
    have hff : ∀ k, k = a ∨ foot A xs k → F k := fun k hk => hF k (hk.imp id .inr)
    have hlx : lg xs i = x := lg_some hi
    rw [hlx] at HP
    have H := Lib.hid hx
    have HPM := Lib.hid hp
    have HREST := Lib.hid (⟨h1, h2, h3, hF⟩ : Sorted L ∧ (∀ q ∈ L, q.turn ≤ (t : Int)) ∧ (∀ k, F k → k < w.heap.size) ∧ ∀ k, k = a ∨ k = M ∨ foot A xs k → F k)
    have HND := Lib.hid hnd
    have hkk := kkey hk
    have HXK := Lib.hid hxk
    unfold ptr at hlook HP
    have HPH := Lib.hid HP
    clear h hx hp hF h1 h2 h3 e1 hnd hi hxk hq hlx hbx HP
    go_enter Try.func40, Try.ntmps40
    go_upto_region 3 with (fail)
    go_still_tail 8, (by kernel_rfl)
    go_upto_region 4 with (go_at_call 56; refine (HPH.out _ (Step.refl _ _).drew).mono ?_; rintro e w2 ⟨rfl, ys, hys, hpy, hhy, hs2'⟩; have hs2 : Step (fun k => k = a ∨ foot A xs k) w w2 := (Step.refl _ _).drew.same hs2'; have c2 := hys.blk.cell (i := 1) rfl)
    have hM2 := H.out.mg.keep hs2 (fun e => hMf M e rfl)
    go_wp2_with (refine wpList_mg_drop rfl (.tmp 29) (.tmp 30) 110 rfl hM2 kkeyed Try.underlying110 (slit_ok _) hkk rfl rfl ?_; intro w3 hM3 hs3)
    rw [← HXK.out] at hM3
    have hfin := H.out.off (hys.still hs3 (fun e => H.out.ne.1 e.symm) (fun k hk e => hMf k (.inr (by
        rcases hk with hk | ⟨y, hy, hk⟩
        · exact .inl hk
        · exact .inr ⟨y, hpy.mem_iff.1 (List.mem_cons_of_mem _ hy), hk⟩)) e)) hpy hhy hM3
    go_ret
    have hpys : (ys.map proj).Perm (dropL L k) := by
      have q1 := (hpy.map proj).trans HPM.out
      rw [List.map_cons] at q1
      have q2 := perm_drop HND.out q1
      rwa [show (proj x).key = k from HXK.out] at q2
    have hst : Step F w w3 := (hs2.mono (fun k _ h => hff k h)).same (hs3.mono (fun k _ e => e ▸ hMF))
    have hsz := hst.size
    obtain ⟨r1, r2, r3, r4⟩ := HREST.out
    exact ⟨rfl, ⟨sorted_drop r1 k, fun q hq => r2 q (mem_drop.1 hq).1, fun k hk => by have := r3 k hk; omega, ys, A, c, M, _, n, _, hfin, hpys, fun k hk => by
      rcases hk with e | e | e | ⟨y, hy, e⟩
      · exact r4 k (.inl e)
      · exact r4 k (.inr (.inl e))
      · exact r4 k (.inr (.inr (.inl e)))
      · exact r4 k (.inr (.inr (.inr ⟨y, hpy.mem_iff.1 (List.mem_cons_of_mem _ hy), e⟩)))⟩, hst⟩

/-- One item of the pile is another one, in its block. -/
theorem HM.upd {w w' : World} {a : Nat} {M : Value} {turn turn' : Int} {A : Option Addr} {c : Nat} {xs : List It} {i : Nat} {x y : It} (h : HM w a M turn A c xs) (hi : xs[i]? = some x) (hb : y.blk = x.blk) (hs : Step (fun k => k = a ∨ k = x.blk) w w') (ha : Blk w' a 114 [.slice A xs.length c, M, .int .i64 turn']) (hy : Blk w' x.blk 117 (icells y i)) : HM w' a M turn' A c (xs.set i y) := by
  have hil := (List.getElem?_eq_some_iff.1 hi).1
  have hmb : (xs.set i y).map (·.blk) = xs.map (·.blk) := by
    rw [List.map_set]
    apply List.ext_getElem?
    intro j
    rw [List.getElem?_set]
    by_cases e : i = j
    · subst e
      rw [if_pos rfl, List.getElem?_map, hi]
      simp [hil, hb]
    · rw [if_neg e]
  have hmp : (xs.set i y).map ptr = xs.map ptr := by
    have e1 : (fun z : It => ptr z) = (fun b : Nat => Value.pointer (some ⟨b, 0, none⟩)) ∘ (·.blk) := rfl
    have e2 : xs.map ptr = (xs.map (·.blk)).map (fun b : Nat => Value.pointer (some ⟨b, 0, none⟩)) := by rw [List.map_map]; rfl
    have e3 : (xs.set i y).map ptr = ((xs.set i y).map (·.blk)).map (fun b : Nat => Value.pointer (some ⟨b, 0, none⟩)) := by rw [List.map_map]; rfl
    rw [e2, e3, hmb]
  have hxn := h.na x (List.mem_of_getElem? hi)
  refine ⟨by rw [List.length_set]; exact ha, ?_, fun j z hj => ?_, by rw [hmb]; exact h.nd, fun z hz => ?_, h.nA⟩
  · rw [hmp, List.length_set]
    exact h.row.keep hs (fun k hk e => e.elim (fun e => h.nA (by rw [← e]; exact hk)) (fun e => hxn.2 (by rw [← e]; exact hk)))
  · rw [List.getElem?_set] at hj
    by_cases e : i = j
    · subst e
      rw [if_pos rfl, if_pos hil] at hj
      obtain rfl := Option.some.inj hj
      rw [hb]
      exact hy
    · rw [if_neg e] at hj
      have hjl := (List.getElem?_eq_some_iff.1 hj).1
      refine (h.itm j z hj).keep hs (fun e' => e'.elim (h.na z (List.mem_of_getElem? hj)).1 (fun e' => e ?_))
      have := nd_blk h.nd hjl hil (by rw [lg_some hj, lg_some hi]; exact e')
      exact this.symm
  · rcases List.mem_or_eq_of_mem_set hz with hz | rfl
    · exact h.na z hz
    · rw [hb]; exact hxn
theorem Fm.upd {f : Lit → Option Value} {xs : List It} (h : Fm f xs) {i : Nat} {x y : It} (hi : xs[i]? = some x) (hb : y.blk = x.blk) (hk : y.key = x.key) : Fm f (xs.set i y) := by
  have hil := (List.getElem?_eq_some_iff.1 hi).1
  intro k
  refine ⟨fun z hz hzk => ?_, fun hall => (h k).2 (fun z hz => ?_)⟩
  · rcases List.mem_or_eq_of_mem_set hz with hz | rfl
    · exact (h k).1 z hz hzk
    · have := (h k).1 x (List.mem_of_getElem? hi) (hk ▸ hzk)
      rw [this]
      unfold ptr
      rw [hb]
  · obtain ⟨j, hj⟩ := List.getElem?_of_mem hz
    by_cases e : i = j
    · subst e
      rw [hi] at hj
      obtain rfl := Option.some.inj hj
      have := hall y (List.mem_of_getElem? (i := i) (by rw [List.getElem?_set_self hil]))
      rwa [hk] at this
    · exact hall z (List.mem_of_getElem? (i := j) (by rw [List.getElem?_set_ne e]; exact hj))
theorem perm_set_at {xs : List It} {i : Nat} {x y : It} (hi : xs[i]? = some x) : ∃ r, (x :: r).Perm xs ∧ (y :: r).Perm (xs.set i y) := by
  obtain ⟨hil, e⟩ := List.getElem?_eq_some_iff.1 hi
  refine ⟨xs.take i ++ xs.drop (i + 1), ?_, ?_⟩
  · have h1 : xs = xs.take i ++ x :: xs.drop (i + 1) := by rw [← e, ← List.drop_eq_getElem_cons hil, List.take_append_drop]
    exact (List.perm_middle.symm).trans (List.Perm.of_eq h1.symm)
  · have h1 : xs.set i y = xs.take i ++ y :: xs.drop (i + 1) := List.set_eq_take_append_cons_drop ▸ (by rw [if_pos hil])
    exact (List.perm_middle.symm).trans (List.Perm.of_eq h1.symm)
end Go.Proofs.Ytghiklaeenhljaa.AgStr

/- agenda: Set. Own work of this seat. -/
namespace Go.Proofs.Ytghiklaeenhljaa.AgStr
open Go.RowKit Go.Proofs.Ytghiklaeenhljaa.Kit Go.Proofs.Ytghiklaeenhljaa.Cmp Go.Proofs.Ytghiklaeenhljaa.HeapP Go.Proofs.Ytghiklaeenhljaa.AgP
set_option linter.unusedVariables false
set_option linter.unusedSimpArgs false

/-- A tick as it counts. -/
def clipT (at_ : Int) : Int := max 0 (min at_ 1099511627776)

theorem set_old {w w' : World} {a : Nat} {F : Nat → Prop} {L : List (Ev ByteArray)} {t : Nat} {xs ys : List It} {A : Option Addr} {c M m n : Nat} {f : Lit → Option Value} {i : Nat} {x : It} {k : ByteArray} {v : Int}
    (hx : AgX w a A c M m n f xs t) (hs : Sorted L) (h2 : ∀ s ∈ L, s.turn ≤ (t : Int)) (h3 : ∀ k, F k → k < w.heap.size) (hp : (xs.map proj).Perm L) (hF : ∀ k, k = a ∨ k = M ∨ foot A xs k → F k) (hi : xs[i]? = some x) (hxk : x.key = k) (hnd : (L.map (·.key)).Nodup)
    (hys : HM w' a (.map (some M)) ((t + 1 : Nat) : Int) A c ys) (hpy : ys.Perm (xs.set i ⟨k, v, ((t + 1 : Nat) : Int), x.blk⟩)) (hh : HeapG le (lg ys) ys.length) (hst : Step (fun k => k = a ∨ foot A xs k) w w') : AgR w' a F (setL L k v ((t + 1 : Nat) : Int)) (t + 1) ∧ Step F w w' := by
  have hil := (List.getElem?_eq_some_iff.1 hi).1
  have hFs : Step F w w' := hst.mono (fun k _ hk => hF k (hk.imp id .inr))
  have hsz := hst.size
  have hmem : ∀ y ∈ ys, y.blk = x.blk ∨ y ∈ xs := fun y hy => by
    rcases List.mem_or_eq_of_mem_set (hpy.mem_iff.1 hy) with h | rfl
    · exact .inr h
    · exact .inl rfl
  have hfoot : ∀ k, foot A ys k → foot A xs k := by
    rintro k (e | ⟨y, hy, e⟩)
    · exact .inl e
    · rcases hmem y hy with h | h
      · exact .inr ⟨x, List.mem_of_getElem? hi, h ▸ e⟩
      · exact .inr ⟨y, h, e⟩
  refine ⟨⟨sorted_set hs k v (fun s hs' => by have := h2 s hs'; omega), fun s hs' => ?_, fun k hk => by have := h3 k hk; omega, ys, A, c, M, m, n, f, ⟨hys, hh, hx.mg.keep hst ?_, (hx.fm.upd (y := ⟨k, v, ((t + 1 : Nat) : Int), x.blk⟩) hi rfl hxk.symm).perm hpy, ⟨hx.ne.1, hx.ne.2.1, fun y hy => ?_⟩, fun y hy => ?_, by have := hx.nt; omega, ?_⟩, ?_, fun k hk => hF k (hk.imp id (Or.imp id (hfoot k)))⟩, hFs⟩
  · rcases mem_set.1 hs' with rfl | ⟨h, _⟩
    · exact Int.le_refl _
    · have := h2 s h; omega
  · rintro (e | e | ⟨y, hy, e⟩)
    · exact hx.ne.1 e
    · exact hx.ne.2.1 e
    · exact hx.ne.2.2 y hy e
  · rcases hmem y hy with h | h
    · rw [h]; exact hx.ne.2.2 x (List.mem_of_getElem? hi)
    · exact hx.ne.2.2 y h
  · rcases List.mem_or_eq_of_mem_set (hpy.mem_iff.1 hy) with h | rfl
    · exact hx.kok y h
    · show KOk k
      rw [← hxk]
      exact hx.kok x (List.mem_of_getElem? hi)
  · rw [hpy.length_eq, List.length_set]
    have := hx.lt
    omega
  · obtain ⟨r, r1, r2⟩ := perm_set_at (y := (⟨k, v, ((t + 1 : Nat) : Int), x.blk⟩ : It)) hi
    have q1 := (r1.map proj).trans hp
    rw [List.map_cons] at q1
    have q2 := perm_drop hnd q1
    rw [show (proj x).key = k from hxk] at q2
    have q3 := (hpy.map proj).trans (r2.symm.map proj)
    rw [List.map_cons] at q3
    exact q3.trans (((List.perm_cons _).2 q2).trans (perm_set L k v _).symm)

theorem set_new {w w' : World} {a : Nat} {F : Nat → Prop} {L : List (Ev ByteArray)} {t : Nat} {xs ys : List It} {A A' : Option Addr} {c c' M m n m' b : Nat} {f : Lit → Option Value} {k : ByteArray} {v : Int}
    (hx : AgX w a A c M m n f xs t) (hs : Sorted L) (h2 : ∀ s ∈ L, s.turn ≤ (t : Int)) (h3 : ∀ k, F k → k < w.heap.size) (hp : (xs.map proj).Perm L) (hF : ∀ k, k = a ∨ k = M ∨ foot A xs k → F k) (hk : KOk k) (hn : ∀ x ∈ xs, x.key ≠ k) (hnL : ∀ s ∈ L, s.key ≠ k)
    (hb0 : w.heap.size ≤ b) (hb1 : b < w'.heap.size)
    (hys : HM w' a (.map (some M)) ((t + 1 : Nat) : Int) A' c' ys) (hpy : ys.Perm (xs ++ [⟨k, v, ((t + 1 : Nat) : Int), b⟩])) (hh : HeapG le (lg ys) ys.length) (hmg : MG Try.prog 9 w' M (n + 1) m' (putF f (slit k) (.pointer (some ⟨b, 0, none⟩))))
    (hA : blockOf A' = blockOf A ∨ ∃ j, blockOf A' = some j ∧ w.heap.size ≤ j) (hst : Step (fun j => j = a ∨ j = M ∨ foot A xs j) w w') : ∃ F', AgR w' a F' (setL L k v ((t + 1 : Nat) : Int)) (t + 1) ∧ Step F w w' ∧ ∀ j, F' j → F j ∨ w.heap.size ≤ j := by
  have hFs : Step F w w' := hst.mono (fun k _ hk => hF k hk)
  have hsz := hst.size
  have hlen := hpy.length_eq
  rw [List.length_append, List.length_singleton] at hlen
  have hml : M < w.heap.size := hx.mg.lt
  have hmem : ∀ y ∈ ys, y = ⟨k, v, ((t + 1 : Nat) : Int), b⟩ ∨ y ∈ xs := fun y hy => by
    rcases List.mem_append.1 (hpy.mem_iff.1 hy) with h | h
    · exact .inr h
    · exact .inl (by simpa using h)
  refine ⟨fun j => F j ∨ (w.heap.size ≤ j ∧ j < w'.heap.size), ⟨sorted_set hs k v (fun s hs' => by have := h2 s hs'; omega), fun s hs' => ?_, fun j hj => ?_, ys, A', c', M, m', n + 1, putF f (slit k) (.pointer (some ⟨b, 0, none⟩)), ⟨hys, hh, hmg, (hx.fm.put (x := (⟨k, v, ((t + 1 : Nat) : Int), b⟩ : It)) hn).perm hpy, ⟨hx.ne.1, ?_, fun y hy => ?_⟩, fun y hy => ?_, by have := hx.nt; omega, ?_⟩, ?_, fun j hj => ?_⟩, hFs, fun j hj => hj.imp id And.left⟩
  · rcases mem_set.1 hs' with rfl | ⟨h, _⟩
    · exact Int.le_refl _
    · have := h2 s h; omega
  · rcases hj with h | h
    · have := h3 j h; omega
    · omega
  · rcases hA with e | ⟨j, e, hj⟩
    · rw [e]; exact hx.ne.2.1
    · rw [e]
      intro e'
      obtain rfl := Option.some.inj e'
      omega
  · rcases hmem y hy with rfl | h
    · show b ≠ M; omega
    · exact hx.ne.2.2 y h
  · rcases hmem y hy with rfl | h
    · exact hk
    · exact hx.kok y h
  · have := hx.lt; omega
  · have q1 := hpy.map proj
    rw [List.map_append] at q1
    have q2 : (xs.map proj ++ [(⟨k, v, ((t + 1 : Nat) : Int)⟩ : Ev ByteArray)]).Perm ((⟨k, v, ((t + 1 : Nat) : Int)⟩ : Ev ByteArray) :: L) := (List.perm_append_singleton _ _).trans ((List.perm_cons _).2 hp)
    have q3 := perm_set L k v ((t + 1 : Nat) : Int)
    rw [drop_none hnL] at q3
    exact (q1.trans q2).trans q3.symm
  · rcases hj with e | e | e | ⟨y, hy, e⟩
    · exact .inl (hF j (.inl e))
    · exact .inl (hF j (.inr (.inl e)))
    · rcases hA with e' | ⟨j', e', hj'⟩
      · exact .inl (hF j (.inr (.inr (.inl (by rw [← e']; exact e)))))
      · rw [e] at e'
        obtain rfl := Option.some.inj e'
        exact .inr ⟨hj', hys.row.lt e⟩
    · rcases hmem y hy with rfl | h
      · exact .inr ⟨by rw [← e]; exact hb0, by rw [← e]; exact hb1⟩
      · exact .inl (hF j (.inr (.inr (.inr ⟨y, h, e⟩))))

theorem HM.turned {w w' : World} {a : Nat} {M : Value} {turn turn' : Int} {A : Option Addr} {c : Nat} {xs : List It} (h : HM w a M turn A c xs) (hs : Step (· = a) w w') (hb : Blk w' a 114 [.slice A xs.length c, M, .int .i64 turn']) : HM w' a M turn' A c xs :=
  ⟨hb, h.row.keep hs (fun k hk e => h.nA (by rw [← e]; exact hk)), fun i x hi => (h.itm i x hi).keep hs (h.na x (List.mem_of_getElem? hi)).1, h.nd, h.na, h.nA⟩

set_option maxRecDepth 100000 in
set_option maxHeartbeats 1000000 in
theorem set_calls {w : World} {a : Nat} {F : Nat → Prop} {L : List (Ev ByteArray)} {t : Nat} (h : AgR w a F L t) (ht : t ≤ 90000) {k : ByteArray} (hk : KOk k) (v0 : Int) :
    Calls Try.prog 50 #[.pointer (some ⟨a, 0, none⟩), Value.string k, .int .i64 v0] w fun e w' => e = .returned (.tuple #[]) ∧ ∃ F', AgR w' a F' (setL L k (clipT v0) ((t + 1 : Nat) : Int)) (t + 1) ∧ Step F w w' ∧ ∀ j, F' j → F j ∨ w.heap.size ≤ j := by
  have hnd := h.nodup
  obtain ⟨h1, h2, h3, xs, A, c, M, m, n, f, hx, hp, hF⟩ := id h
  have hBa := hx.hm.blk
  have c2 := hBa.cell (i := 2) rfl
  have f2 := hBa.free 2
  have hal := hBa.lt
  have hclip : (if (0 : Int) < (if (1099511627776 : Int) < v0 then 1099511627776 else v0) then (if (1099511627776 : Int) < v0 then 1099511627776 else v0) else 0) = clipT v0 := by
    unfold clipT
    by_cases h1 : (1099511627776 : Int) < v0
    · simp only [if_pos h1]; rw [if_pos (by omega)]; omega
    · simp only [if_neg h1]
      by_cases h2 : 0 < v0
      · rw [if_pos h2]; omega
      · rw [if_neg h2]; omega
  obtain ⟨u, hu⟩ : ∃ u, t + 1 = u := ⟨_, rfl⟩
  have ecast : ((t : Nat) : Int) + 1 = (u : Int) := by omega
  have hlt := hx.lt
  have hnt := hx.nt
  have hMa := hx.ne.1
  rcases find_it hp hnd k with ⟨e1, e2, e3⟩ | ⟨i, x, hi, hxk, e1⟩
  · have HX := Lib.hid hx
    have HLK := Lib.hid (fun w1 (hs : Step (· = a) w w1) => (by
      have := (hx.mg.keep hs hMa).look_ok kkeyed Try.underlying110 (zptr w1) (slit_ok k) (kkey hk)
      rw [(hx.fm k).2 e2] at this
      exact this : (Instr.lookup 110 (.map (some M)) (Value.string k) true).run Try.prog w1 = .ok (.tuple #[.pointer none, .bool false]) w1))
    have HBA := Lib.hid hBa
    have HFIN := Lib.hid (fun w' ys A' c' m' b hb0 hb1 (hys : HM w' a (.map (some M)) ((t + 1 : Nat) : Int) A' c' ys) hpy hh hmg hA hst => set_new (v := clipT v0) (w' := w') (ys := ys) (b := b) (m' := m') hx h1 h2 h3 hp hF hk e2 e3 hb0 hb1 hys hpy hh hmg hA hst)
    rw [hu] at HFIN ⊢
    have HU := Lib.hid hu
    have hkk := kkey hk
    have hcs : ∀ b : Nat, icells (⟨k, clipT v0, (u : Int), b⟩ : It) 0 = [Value.string k, .int .i64 (clipT v0), .int .i64 (u : Int), .int .i64 0] := fun _ => rfl
    have HCS := Lib.hid hcs
    clear h hx hp hF h1 h2 h3 e1 e2 e3 hnd hBa hu hcs
    go_enter Try.func50, Try.ntmps50
    go_upto_region 2 with (fail)
    refine put_plain HBA.out ?_
    intro w1 hB1 hs1
    have d1 := hB1.cell (i := 1) rfl
    have d2 := hB1.cell (i := 2) rfl
    have hlook := HLK.out w1 hs1
    have hsz1 := hs1.size
    clear c2 f2
    go_upto_region 7 with (fail)
    all_goals
      refine alloc_next (cs := [Value.string k, .int .i64 (clipT v0), .int .i64 (u : Int), .int .i64 0]) ?_
      intro w2 hN2 hs2
      rw [← HCS.out w1.heap.size] at hN2
      have hH1 := HX.out.hm.turned (turn' := (u : Int)) hs1 hB1
      have hH2 := hH1.same hs2
      have hM2 := (HX.out.mg.keep hs1 hMa).keep hs2 (fun h => h)
      have d1' := hH2.blk.cell (i := 1) rfl
      have hMl := HX.out.mg.lt
      have hfl : ∀ y ∈ xs, y.blk < w.heap.size := fun y hy => by
        obtain ⟨j, hj⟩ := List.getElem?_of_mem hy
        exact (HX.out.hm.itm j y hj).lt
      have hAl : ∀ j, blockOf A = some j → j < w.heap.size := fun j hj => HX.out.hm.row.lt hj
      have hxb : ∀ y ∈ xs, y.blk ≠ w1.heap.size := fun y hy => by have := hfl y hy; omega
      have hxA : blockOf A ≠ some w1.heap.size := fun e => by have := hAl _ e; omega
      have hxa : w1.heap.size ≠ a := by omega
      have hxM : w1.heap.size ≠ M := by omega
      have HPU := Lib.hid (fun w3 (hs3 : Step (· = M) w2 w3) => hpush_calls (hH2.still hs3 (fun e => HX.out.ne.1 e.symm) (fun j hj e => by
        rcases hj with hj | ⟨y, hy, hj⟩
        · exact HX.out.ne.2.1 (e ▸ hj)
        · exact HX.out.ne.2.2 y hy (hj.trans e))) (by omega) HX.out.hp ⟨k, clipT v0, (u : Int), w1.heap.size⟩ (hN2.keep hs3 hxM) hxb hxa hxA)
      have HM2 := Lib.hid hM2
      have HS12 := Lib.hid (hs1.same (hs2.mono (fun _ _ h => h.elim)))
      have hsz2 := hN2.lt
      have hne : n ≤ 1000000 := by omega
      have HHM : w1.heap.size = w1.heap.size := rfl
      generalize hbn : w1.heap.size = b at *
      have HBN := Lib.hid hbn
      clear hbn HHM d1 d2 hlook hM2 hH1 hH2 hN2 hfl hAl
      unfold ptr at HPU
      go_wp2_with (first | (go_at_call 66; refine (HPU.out _ hs3).mono ?_; rintro e w4 ⟨rfl, A', c', ys, hys, hpy, hhy, hs4, hA'⟩) | (refine wpList_mg_put rfl (.tmp 60) (.tmp 61) (.tmp 62) 110 rfl HM2.out kkeyed Try.underlying110 hne (val := .pointer (some ⟨b, 0, none⟩)) (slit_ok k) hkk rfl rfl rfl ?_; intro w3 hM3 hs3; have d3 := hs3.size))
      all_goals
        have hsz2' := HS12.out.size
        have hsz4 := hs4.size
        have hall : Step (fun j => j = a ∨ j = M ∨ foot A xs j) w w4 :=
          ((HS12.out.mono (fun _ _ h => .inl h)).same (hs3.mono (fun _ _ h => .inr (.inl h)))).trans hs4 (fun j hj h => by
            rcases h with h | h | h
            · exact .inl h
            · exact .inr (.inr h)
            · omega)
        obtain ⟨F', r1, r2, r3⟩ := HFIN.out w4 ys A' c' _ b hsz1 (by omega) hys hpy hhy (hM3.keep hs4 (fun h => by
            rcases h with h | (h | ⟨y, hy, h⟩) | h
            · exact HX.out.ne.1 h
            · exact HX.out.ne.2.1 h
            · exact HX.out.ne.2.2 y hy h
            · exact hxM h.symm)) (hA'.imp id (fun ⟨j, h1, h2⟩ => ⟨j, h1, by omega⟩)) hall
        go_end0
        exact ⟨rfl, F', r1, r2, r3⟩
  · have hil := (List.getElem?_eq_some_iff.1 hi).1
    have hxn := hx.hm.na x (List.mem_of_getElem? hi)
    have HX := Lib.hid hx
    have HLK := Lib.hid (fun w1 (hs : Step (· = a) w w1) => (by
      have := (hx.mg.keep hs hMa).look_ok kkeyed Try.underlying110 (zptr w1) (slit_ok k) (kkey hk)
      rw [(hx.fm k).1 x (List.mem_of_getElem? hi) hxk] at this
      exact this : (Instr.lookup 110 (.map (some M)) (Value.string k) true).run Try.prog w1 = .ok (.tuple #[.pointer (some ⟨x.blk, 0, none⟩), .bool true]) w1))
    have HBX := Lib.hid (hx.hm.itm i x hi)
    have HBA := Lib.hid hBa
    have HFIN := Lib.hid (fun w' ys (hys : HM w' a (.map (some M)) ((t + 1 : Nat) : Int) A c ys) hpy hh hst => set_old (v := clipT v0) (w' := w') (ys := ys) hx h1 h2 h3 hp hF hi hxk hnd hys hpy hh hst)
    rw [hu] at HFIN ⊢
    have HHP := Lib.hid hx.hp
    have HI := Lib.hid hi
    have hfx : foot A xs x.blk := .inr ⟨x, List.mem_of_getElem? hi, rfl⟩
    have HXK := Lib.hid hxk
    have HU := Lib.hid hu
    clear h hx hp hF h1 h2 h3 e1 hnd hi hxk hBa hu
    go_enter Try.func50, Try.ntmps50
    go_upto_region 2 with (fail)
    refine put_plain HBA.out ?_
    intro w1 hB1 hs1
    have d1 := hB1.cell (i := 1) rfl
    have d2 := hB1.cell (i := 2) rfl
    have hlook := HLK.out w1 hs1
    have hX1 := HBX.out.keep hs1 hxn.1
    have x1 := hX1.cell (i := 1) rfl
    have g1 := hX1.free 1
    have x2 := hX1.cell (i := 2) rfl
    have g2 := hX1.free 2
    clear c2 f2
    go_upto_region 5 with (fail)
    refine put_plain (w := w1.setCell ⟨x.blk, 1, none⟩ (.int .i64 (clipT v0))) (hX1.set 1 (.int .i64 (clipT v0))) ?_
    intro w2 hX2 hs2'
    have hs2 : Step (· = x.blk) w1 w2 := (step_put w1 x.blk 1 (.int .i64 (clipT v0))).same hs2'
    have hB2 := hB1.keep hs2 (fun e => hxn.1 e.symm)
    have hs12 : Step (fun k => k = a ∨ k = x.blk) w w2 := (hs1.mono (fun _ _ h => .inl h)).same (hs2.mono (fun _ _ h => .inr h))
    have hHM := HX.out.hm.upd (y := (⟨k, clipT v0, (u : Int), x.blk⟩ : It)) (turn' := (u : Int)) HI.out rfl hs12 hB2 (by have := HXK.out; rw [← this]; exact hX2)
    have hbad : Bad1 le (lg (xs.set i ⟨k, clipT v0, (u : Int), x.blk⟩)) i (xs.set i ⟨k, clipT v0, (u : Int), x.blk⟩).length := by
      rw [List.length_set]
      refine fix_bad le_tr HHP.out (fun j hj => ?_)
      unfold lg
      rw [List.getD_eq_getElem?_getD, List.getElem?_set_ne (fun e => hj e.symm), ← List.getD_eq_getElem?_getD]
    have hFX := fun w3 (hs : Step (fun _ => False) w2 w3) => fix_calls (hHM.same hs) (i := i) (by rw [List.length_set]; exact hil) (by rw [List.length_set]; omega) hbad
    have HFX := Lib.hid hFX
    have hft : ∀ j, foot A (xs.set i ⟨k, clipT v0, (u : Int), x.blk⟩) j → foot A xs j := by
      rintro j (e | ⟨y, hy, e⟩)
      · exact .inl e
      · rcases List.mem_or_eq_of_mem_set hy with h | rfl
        · exact .inr ⟨y, h, e⟩
        · exact .inr ⟨x, List.mem_of_getElem? HI.out, e⟩
    have HFT := Lib.hid hft
    have x3 := hX2.cell (i := 3) rfl
    clear x1 g1 x2 g2 hbad hFX hft hlook d1 d2 hHM
    go_still_tail 8, (by kernel_rfl)
    go_wp2_with (go_at_call 65; refine (HFX.out _ (Step.refl _ _).drew).mono ?_; rintro e w4 ⟨rfl, ys, hys, hpy, hhy, hs4⟩)
    all_goals
      obtain ⟨r1, r2⟩ := HFIN.out w4 ys hys hpy (by rw [hpy.length_eq]; exact hhy) ((hs12.mono (fun k _ h => h.imp id (fun h => h ▸ hfx))).same (((Step.refl _ _).drew).same (hs4.mono (fun k _ h => .inr (HFT.out k h)))))
      refine bodyPost_ret (results_none rfl _ _ _) rfl ?_
      exact ⟨rfl, F, r1, r2, fun j hj => .inl hj⟩
end Go.Proofs.Ytghiklaeenhljaa.AgStr

/- health: who is up, in memory; set, First, Waits, Up, Epoch. Own work of this seat. -/
namespace Go.Proofs.Ytghiklaeenhljaa.Hea
open Go.RowKit Go.Proofs.Ytghiklaeenhljaa.Kit Go.Proofs.Ytghiklaeenhljaa.PStewardRamps Go.Proofs.YtghiklaeenhljaaW.PrintWords Go.Proofs.Ytghiklaeenhljaa.AgP Go.Proofs.Ytghiklaeenhljaa
set_option linter.unusedVariables false
set_option linter.unusedSimpArgs false

/-- Somebody: how it is, and whether a probe is without a result. -/
structure Ho where
  pb : Pb
  waits : Bool
def hoc (x : Ho) : List Value := [.bool x.pb.up, .int .i64 x.pb.good, .int .i64 x.pb.bad, .int .i64 x.pb.since, .bool x.waits]
def encH (x : Ho) : Value := .agg #[.bool x.pb.up, .int .i64 x.pb.good, .int .i64 x.pb.bad, .int .i64 x.pb.since, .bool x.waits]
def zHo : Ho := ⟨⟨false, 0, 0, 0⟩, false⟩
theorem zone (w : World) : (zeroValue 77).run Try.prog w = .ok (encH zHo) w := by kernel_rfl
def PbOk (p : Pb) : Prop := (0 ≤ p.good ∧ p.good ≤ 1000) ∧ (0 ≤ p.bad ∧ p.bad ≤ 1000)
def setQ (q : ByteArray → Option Ho) (s : ByteArray) (v : Option Ho) : ByteArray → Option Ho := fun r => if r = s then v else q r
theorem msk : Go.Maps.Keyed Try.prog 9 := Go.Maps.string_keyed Try.underlying9
theorem mskey {s : ByteArray} (h : s.size ≤ 1000) : keyOf Try.prog 9 (.string s) = some (slit s) := skey Try.underlying9 (by omega)

structure HeX (w : World) (p a M : Nat) (FA : Nat → Prop) (c : Cf) (q : ByteArray → Option Ho) (L : List (Ev ByteArray)) (t n m : Nat) (ep : Int) (f : Lit → Option Value) : Prop where
  blk : Blk w p 73 [.int .i64 c.every, .int .i64 c.wait, .int .i64 c.rise, .int .i64 c.fall, .map (some M), .pointer (some ⟨a, 0, none⟩), .int .i64 ep]
  ag : AgStr.AgR w a FA L t
  mg : MG Try.prog 9 w M n m f
  fn : ∀ s, f (slit s) = (q s).map encH
  ne : ¬ FA p ∧ ¬ FA M ∧ p ≠ M
  ok : ∀ s x, q s = some x → PbOk x.pb
  cok : CfOk c
/-- At p, owning blocks of F alone: each name is as q says, L is what is to be done; u bounds how often was stored. -/
def HeR (w : World) (p : Nat) (F : Nat → Prop) (c : Cf) (q : ByteArray → Option Ho) (L : List (Ev ByteArray)) (t u : Nat) (ep : Int) : Prop :=
  (∀ k, F k → k < w.heap.size) ∧ ∃ a M FA n m f, HeX w p a M FA c q L t n m ep f ∧ (n ≤ u ∧ t ≤ u) ∧ ∀ k, (k = p ∨ k = M ∨ FA k) → F k
section
variable {w w' : World} {p a M : Nat} {FA F G : Nat → Prop} {c : Cf} {q : ByteArray → Option Ho} {L : List (Ev ByteArray)} {t n m u : Nat} {ep : Int} {f : Lit → Option Value}
theorem HeX.keep (h : HeX w p a M FA c q L t n m ep f) (hs : Step G w w') (hd : ∀ k, (k = p ∨ k = M ∨ FA k) → ¬ G k) : HeX w' p a M FA c q L t n m ep f :=
  ⟨h.blk.keep hs (hd _ (.inl rfl)), h.ag.keep hs (fun k hk => hd k (.inr (.inr hk))), h.mg.keep hs (hd _ (.inr (.inl rfl))), h.fn, h.ne, h.ok, h.cok⟩
theorem HeR.keep (h : HeR w p F c q L t u ep) (hs : Step G w w') (hd : ∀ k, F k → ¬ G k) : HeR w' p F c q L t u ep := by
  obtain ⟨h1, a, M, FA, n, m, f, hx, hu, hF⟩ := h
  have := hs.size
  exact ⟨fun k hk => by have := h1 k hk; omega, a, M, FA, n, m, f, hx.keep hs (fun k hk => hd k (hF k hk)), hu, hF⟩
theorem HeR.same (h : HeR w p F c q L t u ep) (hs : Step (fun _ => False) w w') : HeR w' p F c q L t u ep := h.keep hs (fun _ _ h => h)
theorem HeX.look (h : HeX w p a M FA c q L t n m ep f) {s : ByteArray} (hs : s.size ≤ 1000) : (Instr.lookup 69 (.map (some M)) (.string s) false).run Try.prog w = .ok (encH ((q s).getD zHo)) w := by
  have := h.mg.look msk Try.underlying69 (zone w) (slit_ok s) (mskey hs)
  rw [h.fn s] at this
  rw [this]
  cases q s <;> rfl
theorem HeX.look_ok (h : HeX w p a M FA c q L t n m ep f) {s : ByteArray} (hs : s.size ≤ 1000) : (Instr.lookup 69 (.map (some M)) (.string s) true).run Try.prog w = .ok (.tuple #[encH ((q s).getD zHo), .bool (q s).isSome]) w := by
  have := h.mg.look_ok msk Try.underlying69 (zone w) (slit_ok s) (mskey hs)
  rw [h.fn s] at this
  rw [this]
  cases q s <;> rfl
end

/-- What set leaves of the times. -/
def timL (L : List (Ev ByteArray)) (t : Nat) (s : ByteArray) (v : Int) : List (Ev ByteArray) × Nat := if v ≤ 1099511627776 then (setL L s v ((t + 1 : Nat) : Int), t + 1) else (dropL L s, t)

set_option maxRecDepth 100000 in
set_option maxHeartbeats 2000000 in
theorem set_calls {w : World} {p : Nat} {F : Nat → Prop} {c : Cf} {q : ByteArray → Option Ho} {L : List (Ev ByteArray)} {t u : Nat} {ep : Int} (h : HeR w p F c q L t u ep) (hu : u ≤ 80000) {s : ByteArray} (hs : s.size ≤ 1000) {at_ ticks : Int} (h0 : 0 ≤ at_ ∧ at_ ≤ 1099511627776) (h1 : 1 ≤ ticks ∧ ticks ≤ 1048576) :
    Calls Try.prog 30 #[.pointer (some ⟨p, 0, none⟩), .string s, .int .i64 at_, .int .i64 ticks] w fun e w' => e = .returned (.tuple #[]) ∧ ∃ F', HeR w' p F' c q (timL L t s (at_ + ticks)).1 (timL L t s (at_ + ticks)).2 (u + 1) ep ∧ Step F w w' ∧ ∀ k, F' k → F k ∨ w.heap.size ≤ k := by
  obtain ⟨g1, a, M, FA, n, m, f, hx, hnu, hF⟩ := h
  have c5 := hx.blk.cell (i := 5) rfl
  have hks : AgStr.KOk s := hs
  unfold timL
  by_cases hv : at_ + ticks ≤ 1099511627776
  · rw [if_pos hv]
    have HS := Lib.hid (AgStr.set_calls hx.ag (by omega) hks (at_ + ticks))
    have hcl : AgStr.clipT (at_ + ticks) = at_ + ticks := by unfold AgStr.clipT; omega
    rw [hcl] at HS
    have HX := Lib.hid hx
    have HF := Lib.hid hF
    have hp := hx.blk.lt
    have hM := hx.mg.lt
    clear hx hF hcl
    go_enter Try.func30, Try.ntmps30
    go_wp2_with (go_at_call 50; refine HS.out.mono ?_; rintro e w2 ⟨rfl, F2, hA2, hs2, hn2⟩)
    have hsz := hs2.size
    go_end0
    have hx2 : HeX w2 p a M F2 c q (setL L s (at_ + ticks) ((t + 1 : Nat) : Int)) (t + 1) n m ep f :=
      ⟨HX.out.blk.keep hs2 HX.out.ne.1, hA2, HX.out.mg.keep hs2 HX.out.ne.2.1, HX.out.fn, ⟨fun h => (hn2 p h).elim HX.out.ne.1 (fun h => by omega), fun h => (hn2 M h).elim HX.out.ne.2.1 (fun h => by omega), HX.out.ne.2.2⟩, HX.out.ok, HX.out.cok⟩
    refine ⟨rfl, fun k => F k ∨ (w.heap.size ≤ k ∧ k < w2.heap.size), ⟨fun k hk => ?_, a, M, F2, n, m, f, hx2, by omega, fun k hk => ?_⟩, hs2.mono (fun k _ h => HF.out k (.inr (.inr h))), fun k hk => hk.imp id And.left⟩
    · rcases hk with h | h
      · have := g1 k h; omega
      · exact h.2
    · rcases hk with h | h | h
      · exact .inl (HF.out k (.inl h))
      · exact .inl (HF.out k (.inr (.inl h)))
      · exact (hn2 k h).imp (fun h => HF.out k (.inr (.inr h))) (fun h' => ⟨h', hA2.lt h⟩)
  · rw [if_neg hv]
    have HS := Lib.hid (AgStr.drop_calls hx.ag (by omega) hks)
    have HX := Lib.hid hx
    have HF := Lib.hid hF
    clear hx hF
    go_enter Try.func30, Try.ntmps30
    go_wp2_with (go_at_call 40; refine HS.out.mono ?_; rintro e w2 ⟨rfl, hA2, hs2⟩)
    have hsz := hs2.size
    go_end0
    exact ⟨rfl, F, ⟨fun k hk => by have := g1 k hk; omega, a, M, FA, n, m, f, ⟨HX.out.blk.keep hs2 HX.out.ne.1, hA2, HX.out.mg.keep hs2 HX.out.ne.2.1, HX.out.fn, HX.out.ne, HX.out.ok, HX.out.cok⟩, by omega, HF.out⟩, hs2.mono (fun k _ h => HF.out k (.inr (.inr h))), fun k hk => .inl hk⟩

set_option maxRecDepth 100000 in
theorem first_calls {w : World} {p : Nat} {F : Nat → Prop} {c : Cf} {q : ByteArray → Option Ho} {L : List (Ev ByteArray)} {t u : Nat} {ep : Int} (h : HeR w p F c q L t u ep) (hu : u ≤ 80000) :
    Calls Try.prog 9 #[.pointer (some ⟨p, 0, none⟩)] w fun e w' => e = .returned (.tuple #[.int .i64 (AgStr.firstL L).1, .bool (AgStr.firstL L).2]) ∧ w = w' := by
  obtain ⟨g1, a, M, FA, n, m, f, hx, hnu, hF⟩ := h
  have c5 := hx.blk.cell (i := 5) rfl
  have HS := AgStr.first_calls hx.ag (by omega)
  generalize AgStr.firstL L = r at *
  clear hx hF
  go_enter Try.func9, Try.ntmps9
  go_wp2_with (go_at_call 31; refine HS.mono ?_; rintro e w2 ⟨rfl, rfl⟩)
  go_ret2
  exact ⟨rfl, rfl⟩

set_option maxRecDepth 100000 in
theorem waits_calls {w : World} {p : Nat} {F : Nat → Prop} {c : Cf} {q : ByteArray → Option Ho} {L : List (Ev ByteArray)} {t u : Nat} {ep : Int} (h : HeR w p F c q L t u ep) {s : ByteArray} (hs : s.size ≤ 1000) :
    Calls Try.prog 11 #[.pointer (some ⟨p, 0, none⟩), .string s] w fun e w' => e = .returned (.bool ((q s).getD zHo).waits) ∧ w = w' := by
  obtain ⟨g1, a, M, FA, n, m, f, hx, hnu, hF⟩ := h
  have c4 := hx.blk.cell (i := 4) rfl
  have hl := hx.look hs
  have hu1 := Try.underlying77
  have hfd : ∀ (b0 : Bool) (b1 b2 b3 : Int) (b4 : Bool) (w : World), (Instr.field 77 (.agg #[.bool b0, .int .i64 b1, .int .i64 b2, .int .i64 b3, .bool b4]) 1).run Try.prog w = .ok (.bool b4) w := fun _ _ _ _ _ _ => by kernel_rfl
  unfold encH at hl
  generalize (q s).getD zHo = x at *
  clear hx hF
  go_enter Try.func11, Try.ntmps11
  go_wp2
  go_ret
  exact ⟨rfl, rfl⟩

set_option maxRecDepth 100000 in
theorem epoch_calls {w : World} {p : Nat} {F : Nat → Prop} {c : Cf} {q : ByteArray → Option Ho} {L : List (Ev ByteArray)} {t u : Nat} {ep : Int} (h : HeR w p F c q L t u ep) :
    Calls Try.prog 15 #[.pointer (some ⟨p, 0, none⟩)] w fun e w' => e = .returned (.int .i64 ep) ∧ w = w' := by
  obtain ⟨g1, a, M, FA, n, m, f, hx, hnu, hF⟩ := h
  have c6 := hx.blk.cell (i := 6) rfl
  clear hx hF
  go_enter Try.func15, Try.ntmps15
  go_wp2
  go_ret
  exact ⟨rfl, rfl⟩

def upV (q : ByteArray → Option Ho) (s : ByteArray) : List Value := match q s with | none => [.string ⟨#[]⟩, .bool false, .int .i64 0] | some x => [.string s, .bool x.pb.up, .int .i64 x.pb.since]
set_option maxRecDepth 100000 in
set_option maxHeartbeats 2000000 in
theorem up_calls {w : World} {p : Nat} {F : Nat → Prop} {c : Cf} {q : ByteArray → Option Ho} {L : List (Ev ByteArray)} {t u : Nat} {ep : Int} (h : HeR w p F c q L t u ep) {s : ByteArray} (hs : s.size ≤ 1000) :
    Calls Try.prog 13 #[.pointer (some ⟨p, 0, none⟩), .string s] w fun e w' => e = .returned (.tuple #[.agg (upV q s).toArray, .bool (q s).isSome]) ∧ Step (fun _ => False) w w' := by
  obtain ⟨g1, a, M, FA, n, m, f, hx, hnu, hF⟩ := h
  have HX := Lib.hid hx
  have HL := Lib.hid (fun w1 (hs1 : Step (fun _ => False) w w1) => (hx.keep hs1 (fun _ _ h => h)).look_ok hs)
  have hu1 := Try.underlying77
  unfold encH at HL
  unfold upV
  generalize q s = y at *
  clear hx hF
  cases y with
  | none =>
    simp only [Option.getD_none, Option.isSome_none] at HL ⊢
    go_enter Try.func13, Try.ntmps13
    go_upto_region 1 with (fail)
    refine alloc_next (cs := [.string ⟨#[]⟩, .bool false, .int .i64 0]) ?_
    intro w1 hZ hs1
    have c4 := (HX.out.blk.keep hs1 (fun h => h)).cell (i := 4) rfl
    have hl := HL.out w1 hs1
    generalize hwb : w.heap.size = wb at *
    have hwl := hs1.size
    go_upto_region 3 with (fail)
    have hal : Step (fun _ => False) w1 (w1.alloc (.cells #[.bool false, .int .i64 0, .int .i64 0, .int .i64 0, .bool false] 77)) := (Step.refl _ _).alloc _
    have hZ2 := hZ.keep hal (fun h => h)
    go_wp2_with (refine wpList_store_blk rfl 39 (.tmp 4) (.tmp 19) rfl hZ2 rfl (vs := [.string ⟨#[]⟩, .bool false, .int .i64 0]) rfl (by kernel_rfl) rfl (fun v hv => by simp only [List.mem_cons, List.not_mem_nil, or_false] at hv; rcases hv with rfl | rfl | rfl <;> rfl) ?_; intro w9 hZ9 hs9)
    try simp only [Exit.inBlock, Exit.then]
    exact post_cell_tmp (cs := [.string ⟨#[]⟩, .bool false, .int .i64 0]) rfl rfl hZ9 Try.underlying39 rfl (by kernel_rfl) rfl rfl ⟨rfl, (hs1.same hal).trans hs9 (fun j hj e => by have : j = wb := e; omega)⟩
  | some x =>
    simp only [Option.getD_some, Option.isSome_some] at HL ⊢
    obtain ⟨⟨x0, x1, x2, x3⟩, x4⟩ := x
    simp only at HL ⊢
    go_enter Try.func13, Try.ntmps13
    go_upto_region 1 with (fail)
    refine alloc_next (cs := [.string ⟨#[]⟩, .bool false, .int .i64 0]) ?_
    intro w1 hZ hs1
    have c4 := (HX.out.blk.keep hs1 (fun h => h)).cell (i := 4) rfl
    have hl := HL.out w1 hs1
    generalize hwb : w.heap.size = wb at *
    have hwl := hs1.size
    go_upto_region 4 with (fail)
    refine alloc_next (cs := [.bool x0, .int .i64 x1, .int .i64 x2, .int .i64 x3, .bool x4]) ?_
    intro w2 hO hs2
    have o0 := hO.cell (i := 0) rfl
    have o3 := hO.cell (i := 3) rfl
    have hZ2 := hZ.keep hs2 (fun h => h)
    go_wp2_with (refine wpList_store_blk rfl 39 (.tmp 4) (.tmp 27) rfl hZ2 rfl (vs := [.string s, .bool x0, .int .i64 x3]) rfl (by kernel_rfl) rfl (fun v hv => by simp only [List.mem_cons, List.not_mem_nil, or_false] at hv; rcases hv with rfl | rfl | rfl <;> rfl) ?_; intro w9 hZ9 hs9)
    try simp only [Exit.inBlock, Exit.then]
    exact post_cell_tmp (cs := [.string s, .bool x0, .int .i64 x3]) rfl rfl hZ9 Try.underlying39 rfl (by kernel_rfl) rfl rfl ⟨rfl, (hs1.same hs2).trans hs9 (fun j hj e => by have : j = wb := e; omega)⟩
end Go.Proofs.Ytghiklaeenhljaa.Hea

/- health: result. Own work of this seat. -/
namespace Go.Proofs.Ytghiklaeenhljaa.Hea
open Go.RowKit Go.Proofs.Ytghiklaeenhljaa.Kit Go.Proofs.Ytghiklaeenhljaa.PStewardRamps Go.Proofs.YtghiklaeenhljaaW.PrintWords Go.Proofs.Ytghiklaeenhljaa.AgP Go.Proofs.Ytghiklaeenhljaa
set_option linter.unusedVariables false
set_option linter.unusedSimpArgs false

/-- An event. -/
structure Evn where
  kind : Int
  name : ByteArray
  tm : Int
def evc (e : Evn) : List Value := [.int .i64 e.kind, .string e.name, .int .i64 e.tm]
def evcs (l : List Evn) : List Value := l.flatMap evc
/-- A row of events. -/
def ESeg (w : World) (A : Option Addr) (n c : Nat) (l : List Evn) : Prop := FSeg w 33 3 A n c (evcs l)
theorem evcs_append (l r : List Evn) : evcs (l ++ r) = evcs l ++ evcs r := by simp [evcs]
theorem evcs_length (l : List Evn) : (evcs l).length = l.length * 3 := by
  induction l with
  | nil => rfl
  | cons x r ih => simp only [evcs, evc, List.flatMap_cons, List.length_append, List.length_cons, List.length_nil] at ih ⊢; omega
theorem evcs_one (l : List Evn) : ∀ v ∈ evcs l, v.oneCell' = true := by
  intro v hv
  obtain ⟨e, _, he⟩ := List.mem_flatMap.1 hv
  simp only [evc, List.mem_cons, List.not_mem_nil, or_false] at he
  rcases he with rfl | rfl | rfl <;> rfl
theorem ESeg.len {w : World} {A : Option Addr} {n c : Nat} {l : List Evn} (h : ESeg w A n c l) : l.length = n := by have := h.1; rw [evcs_length] at this; omega
theorem ESeg.keep {w w' : World} {A : Option Addr} {n c : Nat} {l : List Evn} {F : Nat → Prop} (h : ESeg w A n c l) (hs : Step F w w') (hF : ∀ j, blockOf A = some j → ¬ F j) : ESeg w' A n c l := FSeg.keep h hs hF
theorem eseg_nil (w : World) : ESeg w none 0 0 [] := fseg_nil _ _ _
theorem eseg_one {w : World} {b : Nat} {e : Evn} (h : Blk w b 33 (evc e)) : ESeg w (some ⟨b, 0, none⟩) 1 1 [e] :=
  ⟨rfl, .inr ⟨b, (evc e).toArray, rfl, h, Nat.le_refl _, by simp [evc], fun j v hj => by simpa [evcs] using hj⟩⟩

theorem hide_blk {P : Program} {c : Code} {Q : Exit → Act → World → Prop} {a : Act} {W w2 : World} {b : Nat} {T : TypeId} {cs : List Value} (hB : Blk W b T cs) (hS : Step (· = b) w2 W) (k : ∀ W', Blk W' b T cs → Step (· = b) w2 W' → Code.wp P c Q a W') : Code.wp P c Q a W := k W hB hS

theorem resP_ok {p : Pb} {c : Cf} (hp : PbOk p) (hc : CfOk c) (good : Bool) (now : Int) : PbOk (resP p c good now).1 := by
  obtain ⟨up, g, b, s⟩ := p
  unfold PbOk at hp ⊢
  obtain ⟨_, _, h3, h4⟩ := hc
  simp only at hp
  unfold resP
  cases good <;> cases up <;> simp only
  · omega
  · split <;> simp only <;> omega
  · split <;> simp only <;> omega
  · omega
theorem HeX.put {w w' : World} {p a M : Nat} {FA : Nat → Prop} {c : Cf} {q : ByteArray → Option Ho} {L : List (Ev ByteArray)} {t n m n' m' : Nat} {ep : Int} {f : Lit → Option Value} {s : ByteArray} {y : Ho}
    (h : HeX w p a M FA c q L t n m ep f) (hs : Step (· = M) w w') (hm : MG Try.prog 9 w' M n' m' (putF f (slit s) (encH y))) (hy : PbOk y.pb) : HeX w' p a M FA c (setQ q s (some y)) L t n' m' ep (putF f (slit s) (encH y)) := by
  refine ⟨h.blk.keep hs h.ne.2.2, h.ag.keep hs (fun k hk e => h.ne.2.1 (e ▸ hk)), hm, fun r => ?_, h.ne, fun r x hr => ?_, h.cok⟩
  · unfold putF setQ
    by_cases e : r = s
    · rw [e, if_pos (sameKey_self (slit_ok _)), if_pos rfl]; rfl
    · have ek : slit r ≠ slit s := fun e' => e (slit_inj e')
      rw [if_neg (by rw [Go.Maps.sameKey_ne ek]; simp), if_neg e]
      exact h.fn r
  · unfold setQ at hr
    by_cases e : r = s
    · rw [if_pos e] at hr
      obtain rfl := Option.some.inj hr
      exact hy
    · rw [if_neg e] at hr
      exact h.ok r x hr
theorem HeX.eph {w w' : World} {p a M : Nat} {FA : Nat → Prop} {c : Cf} {q : ByteArray → Option Ho} {L : List (Ev ByteArray)} {t n m : Nat} {ep ep' : Int} {f : Lit → Option Value} (h : HeX w p a M FA c q L t n m ep f) (hs : Step (· = p) w w')
    (hb : Blk w' p 73 [.int .i64 c.every, .int .i64 c.wait, .int .i64 c.rise, .int .i64 c.fall, .map (some M), .pointer (some ⟨a, 0, none⟩), .int .i64 ep']) : HeX w' p a M FA c q L t n m ep' f :=
  ⟨hb, h.ag.keep hs (fun k hk e => h.ne.1 (e ▸ hk)), h.mg.keep hs (fun e => h.ne.2.2 e.symm), h.fn, h.ne, h.ok, h.cok⟩

/-- What is told of a result. -/
def resE (r : Pb × Bool) (s : ByteArray) (at_ : Int) : List Evn := if r.2 then [⟨if r.1.up then 3 else 4, s, at_⟩] else []

set_option maxRecDepth 100000 in
set_option maxHeartbeats 4000000 in
theorem result2_calls {w : World} {p : Nat} {F : Nat → Prop} {c : Cf} {q : ByteArray → Option Ho} {L : List (Ev ByteArray)} {t u : Nat} {ep : Int} (h : HeR w p F c q L t u ep) (hu : u ≤ 79000) (hep : 0 ≤ ep ∧ ep ≤ 1000000000) {s : ByteArray} (hs : s.size ≤ 1000) (good : Bool) {at_ : Int} (h0 : 0 ≤ at_ ∧ at_ ≤ 1099511627776) {x : Ho} (hx0 : (q s).getD zHo = x) (hpk : PbOk x.pb) :
    Calls Try.prog 34 #[.pointer (some ⟨p, 0, none⟩), .string s, .bool good, .int .i64 at_] w fun e w' => ∃ F' A cA, e = .returned (.slice A (resE (resP x.pb c good at_) s at_).length cA) ∧ ESeg w' A (resE (resP x.pb c good at_) s at_).length cA (resE (resP x.pb c good at_) s at_) ∧ (∀ k, blockOf A = some k → w.heap.size ≤ k ∧ ¬ F' k) ∧
      HeR w' p F' c (setQ q s (some ⟨(resP x.pb c good at_).1, false⟩)) (timL L t s (at_ + c.every)).1 (timL L t s (at_ + c.every)).2 (u + 2) (if (resP x.pb c good at_).2 then ep + 1 else ep) ∧ Step F w w' ∧ ∀ k, F' k → F k ∨ w.heap.size ≤ k := by
  obtain ⟨g1, a, M, FA, n, m, f, hx, hnu, hF⟩ := h
  have c4 := hx.blk.cell (i := 4) rfl
  have hl := hx.look hs
  rw [hx0] at hl
  unfold encH at hl
  have HRES := Lib.hid (fun w1 => result_calls hx.cok hpk good at_ w1)
  have HX := Lib.hid hx
  have HF := Lib.hid (⟨g1, hF⟩ : (∀ k, F k → k < w.heap.size) ∧ ∀ k, (k = p ∨ k = M ∨ FA k) → F k)
  have hp := hx.blk.lt
  have hM := hx.mg.lt
  have hFA : ∀ k, FA k → k < w.heap.size := fun k hk => hx.ag.lt hk
  have HX0 := Lib.hid hx0
  obtain ⟨r, hr⟩ : ∃ r, resP x.pb c good at_ = r := ⟨_, rfl⟩
  rw [hr] at HRES ⊢
  have HR := Lib.hid hr
  clear hx hF hx0 hr
  obtain ⟨⟨x0, x1, x2, x3⟩, x4⟩ := x
  obtain ⟨⟨r0, r1, r2, r3⟩, is⟩ := r
  simp only at HRES hl
  go_enter Try.func34, Try.ntmps34
  go_upto_region 3 with (fail)
  refine alloc_next (cs := [.bool x0, .int .i64 x1, .int .i64 x2, .int .i64 x3, .bool x4]) ?_
  intro w1 hO hs1
  generalize hxb : w.heap.size = xb at *
  have HXB := Lib.hid hxb
  clear hxb hl
  have hx1 := HX.out.keep hs1 (fun _ _ h => h)
  have d0 := hx1.blk.cell (i := 0) rfl
  have d1 := hx1.blk.cell (i := 1) rfl
  have d2 := hx1.blk.cell (i := 2) rfl
  have d3 := hx1.blk.cell (i := 3) rfl
  have o0 := hO.cell (i := 0) rfl
  have o1 := hO.cell (i := 1) rfl
  have o2 := hO.cell (i := 2) rfl
  have o3 := hO.cell (i := 3) rfl
  have HX1 := Lib.hid hx1
  have HOO := Lib.hid (fun w2 (hs2 : Step (fun _ => False) w1 w2) => (⟨(hO.keep hs2 (fun h => h)).cell (i := 0) rfl, (hO.keep hs2 (fun h => h)).cell (i := 1) rfl, (hO.keep hs2 (fun h => h)).cell (i := 2) rfl, (hO.keep hs2 (fun h => h)).cell (i := 3) rfl, (hO.keep hs2 (fun h => h)).free 0, (hO.keep hs2 (fun h => h)).free 1, (hO.keep hs2 (fun h => h)).free 2, (hO.keep hs2 (fun h => h)).free 3⟩ : w2.cell? ⟨xb, 0, none⟩ = some (.bool x0) ∧ w2.cell? ⟨xb, 1, none⟩ = some (.int .i64 x1) ∧ w2.cell? ⟨xb, 2, none⟩ = some (.int .i64 x2) ∧ w2.cell? ⟨xb, 3, none⟩ = some (.int .i64 x3) ∧ w2.frozen? ⟨xb, 0, none⟩ = false ∧ w2.frozen? ⟨xb, 1, none⟩ = false ∧ w2.frozen? ⟨xb, 2, none⟩ = false ∧ w2.frozen? ⟨xb, 3, none⟩ = false))
  have hdr := (Step.refl (fun _ => False) w1).drew
  clear hx1
  go_region_with (go_at_call 52; refine (HRES.out _).mono ?_; rintro e w2 ⟨rfl, hs2⟩; have hs12 : Step (fun _ => False) w1 w2 := (by first | exact hdr.same hs2 | exact hs2); obtain ⟨y0, y1, y2, y3, z0, z1, z2, z3⟩ := HOO.out _ hs12)
  all_goals
    go_upto_region 4 with (fail)
    have hO2 := hO.keep hs12 (fun h => h)
    have hS4 : ∀ v0 v1 v2 v3, Step (· = xb) w2 ((((w2.setCell ⟨xb, 0, none⟩ v0).setCell ⟨xb, 1, none⟩ v1).setCell ⟨xb, 2, none⟩ v2).setCell ⟨xb, 3, none⟩ v3) := fun v0 v1 v2 v3 => (((step_put w2 xb 0 v0).same (step_put _ xb 1 v1)).same (step_put _ xb 2 v2)).same (step_put _ xb 3 v3)
    refine hide_blk (w2 := w2) (b := xb) (T := 77) (cs := [.bool r0, .int .i64 r1, .int .i64 r2, .int .i64 r3, .bool x4]) ((((hO2.set 0 (.bool r0)).set 1 (.int .i64 r1)).set 2 (.int .i64 r2)).set 3 (.int .i64 r3)) (by first | exact hS4 _ _ _ _ | exact (hS4 _ _ _ _).drew) ?_
    intro w3 hO3 hs3
    clear y0 y1 y2 y3 z0 z1 z2 z3 o0 o1 o2 o3 d0 d1 d2 d3 hS4 hO2
    have o4 := hO3.cell (i := 4) rfl
    have f4 := hO3.free 4
    have hs13 : Step (fun k => k = xb) w1 w3 := (hs12.mono (fun _ _ h => h.elim)).same hs3
    go_upto_region 5 with (fail)
    refine put_plain hO3 ?_
    intro w4 hO4 hs4
    have hs14 : Step (fun k => k = xb) w1 w4 := hs13.same hs4
    have hx4 := HX1.out.keep hs14 (fun k hk e => by
      rcases hk with h | h | h
      · omega
      · omega
      · have := hFA k h; omega)
    clear o4 f4
    have d4 := hx4.blk.cell (i := 4) rfl
    have o0 := hO4.cell (i := 0) rfl
    have o1 := hO4.cell (i := 1) rfl
    have o2 := hO4.cell (i := 2) rfl
    have o3 := hO4.cell (i := 3) rfl
    have o4 := hO4.cell (i := 4) rfl
    have HX4 := Lib.hid hx4
    clear hx4
    go_still_tail 6, (by kernel_rfl)
    have hdr4 : Step (fun _ => False) w4 w4.drew := (Step.refl _ _).drew
    have HMG := Lib.hid (HX4.out.mg.keep hdr4 (fun h => h))
    have hpr : PbOk ⟨r0, r1, r2, r3⟩ := by have := resP_ok hpk HX4.out.cok good at_; rwa [HR.out] at this
    have hcok := HX4.out.cok
    go_upto_region 6 with (refine wpList_mg_put rfl (.tmp 35) (.tmp 36) (.tmp 37) 69 rfl HMG.out msk Try.underlying69 (by omega) (val := encH ⟨⟨r0, r1, r2, r3⟩, false⟩) (slit_ok s) (mskey hs) rfl rfl rfl ?_; intro w5 hM5 hs5)
    have hx5 := (HX4.out.keep hdr4 (fun _ _ h => h)).put hs5 hM5 hpr
    have hsz14 := hs14.size
    have hsz5 := hs5.size
    have hs45 : Step (· = M) w4 w5 := (hdr4.mono (fun _ _ h => h.elim)).same hs5
    have hO5 := hO4.keep hs45 (fun e => by omega)
    have hI5 : HeR w5 p F c (setQ q s (some ⟨⟨r0, r1, r2, r3⟩, false⟩)) L t (u + 1) ep :=
      ⟨fun k hk => by have := HF.out.1 k hk; have := hs1.size; have := hs45.size; have := HXB.out; omega, a, M, FA, _, _, _, hx5, by omega, HF.out.2⟩
    have d0 := hx5.blk.cell (i := 0) rfl
    have HSE := Lib.hid (set_calls hI5 (by omega) hs h0 hcok.1)
    have hst5 : Step F w w5 := (hs1.mono (fun _ _ h => h.elim)).trans ((hs14.mono (fun k _ e => (.inl e : k = xb ∨ k = M))).same (hs45.mono (fun k _ e => .inr e))) (fun j hj h => by
      rcases h with h | h
      · have := HXB.out; omega
      · exact h ▸ HF.out.2 M (.inr (.inl rfl)))
    clear hM5 hx5 hI5 d4 o0 o1 o2 o3 o4 hs5
    go_upto_region 7 with (go_at_call 30; refine HSE.out.mono ?_; rintro e w6 ⟨rfl, F6, hI6, hs6, hn6⟩)
    have hO6 := hO5.keep hs6 (fun h => by have := HF.out.1 xb h; have := HXB.out; omega)
    have hst6 : Step F w w6 := hst5.same hs6
    have hsz6 := hst5.size
    have hn6w : ∀ k, F6 k → F k ∨ w.heap.size ≤ k := fun k hk => (hn6 k hk).imp id (fun h => by omega)
    clear HSE d0 hn6
    cases is with
    | false =>
      go_wp2
      go_ret
      unfold resE
      simp only [Bool.false_eq_true, if_false]
      exact ⟨F6, none, 0, rfl, eseg_nil _, fun k hk => (by cases hk), hI6, hst6, hn6w⟩
    | true =>
      obtain ⟨e1, a2, M2, FA2, n2, m2, f2, hx6, hnu2, hF6⟩ := hI6
      have d6 := hx6.blk.cell (i := 6) rfl
      have g6 := hx6.blk.free 6
      have HX6 := Lib.hid hx6
      clear hx6
      go_upto_region 10 with (fail)
      refine put_plain HX6.out.blk ?_
      intro w7 hB7 hs7
      have hx7 := HX6.out.eph hs7 hB7
      have hp6 := e1 p (hF6 p (.inl rfl))
      have hO7 := hO6.keep hs7 (fun e => by omega)
      have hsz7 := hs7.size
      have hI7 : HeR w7 p F6 c (setQ q s (some ⟨⟨r0, r1, r2, r3⟩, false⟩)) _ _ (u + 2) (ep + 1) := ⟨fun k hk => by have := e1 k hk; omega, a2, M2, FA2, n2, m2, f2, hx7, by omega, hF6⟩
      have hst7 : Step F w w7 := hst6.same (hs7.mono (fun k _ e => by
        have : k = p := e
        rw [this]
        exact HF.out.2 p (.inl rfl)))
      have o0 := hO7.cell (i := 0) rfl
      have HI7 := Lib.hid hI7
      have hF6l := e1
      clear d6 g6 hx7 hB7 hI7 hO6 hO5 hO4 hO3 hO
      cases r0
      all_goals
        go_wp2
        go_ret
        unfold resE
        simp only [Bool.false_eq_true, if_false, if_true]
        refine ⟨F6, some ⟨w7.heap.size, 0, none⟩, 1, rfl, eseg_one (blk_new w7 (evc ⟨_, s, at_⟩) 33), fun k hk => ?_, HI7.out.same ((Step.refl _ _).alloc _), hst7.then_below ((Below.refl _ _).alloc (Nat.le_refl _) _), hn6w⟩
        obtain rfl : w7.heap.size = k := Option.some.inj hk
        have := hst7.size
        exact ⟨this, fun h => by have := hF6l _ h; omega⟩
end Go.Proofs.Ytghiklaeenhljaa.Hea

/- health: turn. Own work of this seat. -/
namespace Go.Proofs.Ytghiklaeenhljaa.Hea
open Go.RowKit Go.Proofs.Ytghiklaeenhljaa.Kit Go.Proofs.Ytghiklaeenhljaa.PStewardRamps Go.Proofs.YtghiklaeenhljaaW.PrintWords Go.Proofs.Ytghiklaeenhljaa.AgP Go.Proofs.Ytghiklaeenhljaa
set_option linter.unusedVariables false
set_option linter.unusedSimpArgs false

theorem i0ev : ∃ i, Try.prog.info? 33 = some i ∧ i.zero = some (.agg #[.int .i64 0, .string ⟨#[]⟩, .int .i64 0]) ∧ i.size = 3 ∧ i.bytes = 32 := by
  obtain ⟨i, hi, hp⟩ := Option.map_eq_some_iff.1 (by kernel_rfl : (Try.prog.info? 33).map (fun i => (i.zero, i.size, i.bytes)) = some (some (.agg #[.int .i64 0, .string ⟨#[]⟩, .int .i64 0]), 3, 32))
  simp only [Prod.mk.injEq] at hp
  exact ⟨i, hi, hp⟩
theorem ESeg.lt {w : World} {A : Option Addr} {n c : Nat} {l : List Evn} (h : ESeg w A n c l) {j : Nat} (hj : blockOf A = some j) : j < w.heap.size := FSeg.lt h hj
/-- Events behind events. -/
theorem run_app_e {w : World} {A B : Option Addr} {n c m cB : Nat} {l r : List Evn} (h : ESeg w A n c l) (k : ESeg w B m cB r) (hne : A ≠ none ∨ r ≠ []) (hb : n + m ≤ 1000000) :
    ∃ A' c' w', (Builtin.append_ #[30, 30] 30 #[.slice A n c, .slice B m cB]).run Try.prog w = .ok (.slice A' (n + m) c') w' ∧ ESeg w' A' (n + m) c' (l ++ r) ∧ Step (fun k => blockOf A = some k) w w' ∧ (blockOf A' = blockOf A ∨ ∃ k, blockOf A' = some k ∧ w.heap.size ≤ k) := by
  obtain ⟨i0, hi0, hz0, hs0, hy0⟩ := i0ev
  have hml := k.len
  obtain ⟨hl, ⟨rfl, rfl, rfl, h0⟩ | ⟨g, cur, rfl, hg, hle, hsz, hcell⟩⟩ := k
  · obtain rfl : r = [] := List.eq_nil_of_length_eq_zero hml
    have hA : A ≠ none := hne.elim id (fun h => absurd rfl h)
    obtain ⟨_, ⟨rfl, _⟩ | ⟨g, cur, rfl, _, hle, _⟩⟩ := id h
    · exact absurd rfl hA
    refine ⟨_, c, w, ?_, by rw [List.append_nil, Nat.add_zero]; exact h, Step.refl _ _, .inl rfl⟩
    have hf : (Builtin.firstCells 3 0 (.slice none 0 0)).run Try.prog w = .ok #[] w := by simp [Builtin.firstCells]
    have hst : (storeCells ((⟨g, 0, none⟩ : Addr).add (n * 3)) []).run Try.prog w = .ok () w := by simp [storeCells]
    simp [Builtin.append_, run_underlying Try.underlying30, sizeOf, typeInfo, hi0, hs0, Builtin.lenOf, hle, hf, hst]
  · have hm0 : A = none → 0 < m := fun e => by
      rcases hne with h | h
      · exact absurd e h
      · have := List.length_pos_iff.2 h; omega
    obtain ⟨A', c', w', h1, h2, h3, h4⟩ := run_append_flat (P := Try.prog) (cB := cB) w 30 30 33 i0 _ 3 32 Try.underlying30 hi0 hz0 rfl hs0 hy0 (by omega) h (m := m) (r := evcs r) (aB := ⟨g, 0, none⟩) hl hm0 (evcs_one r) (fun j v hj => by rw [addr_add', Nat.zero_add]; simp [World.cell?, hg, hcell j v hj]) hb
    exact ⟨A', c', w', h1, by unfold ESeg; rw [evcs_append]; exact h2, h3, h4⟩
theorem wpList_app {P : Program} {ops : Array Oper} {rest : List Oper} {o : Oper} {a : Act} {w w' : World} {Q : Exit → Act → World → Prop} (hgd : o.guard = none) (s x : Operand) (t : TypeId)
    (ho : o.op = .call { callee := .builtin .append, args := #[s, x], argTypes := #[t, t] }) {vs vx v : Value} (hs : a.eval s = vs) (hx : a.eval x = vx) (hr : (Builtin.append_ #[t, t] o.type #[vs, vx]).run P w = .ok v w') (h : wpList P ops Q rest (a.put o.dst v) w') :
    wpList P ops Q (o :: rest) a w := by
  refine wpList_plain hgd fun K hK => ?_
  unfold Oper.wp execOp
  simp only [ho, resolve, invoke, builtin, Sem.run_bind, Sem.run_pure, Result.andThen_ok, List.map_toArray, List.map_cons, List.map_nil, hs, hx, hr]
  exact hK _ _ h

/-- What turn tells, and leaves. -/
def turE (x : Ho) (c : Cf) (s : ByteArray) (at_ : Int) : List Evn := if x.waits then ⟨2, s, at_⟩ :: resE (resP x.pb c false at_) s at_ else [⟨1, s, at_⟩]
def turQ (x : Ho) (c : Cf) (at_ : Int) : Ho := if x.waits then ⟨(resP x.pb c false at_).1, false⟩ else ⟨x.pb, true⟩
def turV (x : Ho) (c : Cf) (at_ : Int) : Int := if x.waits then at_ + c.every else at_ + c.wait
def turN (x : Ho) (c : Cf) (at_ ep : Int) : Int := if x.waits then (if (resP x.pb c false at_).2 then ep + 1 else ep) else ep

set_option maxRecDepth 100000 in
set_option maxHeartbeats 4000000 in
theorem turn_calls {w : World} {p : Nat} {F : Nat → Prop} {c : Cf} {q : ByteArray → Option Ho} {L : List (Ev ByteArray)} {t u : Nat} {ep : Int} (h : HeR w p F c q L t u ep) (hu : u ≤ 79000) (hep : 0 ≤ ep ∧ ep ≤ 1000000000) {s : ByteArray} (hs : s.size ≤ 1000) {at_ : Int} (h0 : 0 ≤ at_ ∧ at_ ≤ 1099511627776) {x : Ho} (hx0 : (q s).getD zHo = x) (hpk : PbOk x.pb) :
    Calls Try.prog 33 #[.pointer (some ⟨p, 0, none⟩), .string s, .int .i64 at_] w fun e w' => ∃ F' A cA, e = .returned (.slice A (turE x c s at_).length cA) ∧ ESeg w' A (turE x c s at_).length cA (turE x c s at_) ∧ (∀ k, blockOf A = some k → w.heap.size ≤ k ∧ ¬ F' k) ∧
      HeR w' p F' c (setQ q s (some (turQ x c at_))) (timL L t s (turV x c at_)).1 (timL L t s (turV x c at_)).2 (u + 2) (turN x c at_ ep) ∧ Step F w w' ∧ ∀ k, F' k → F k ∨ w.heap.size ≤ k := by
  obtain ⟨g1, a, M, FA, n, m, f, hx, hnu, hF⟩ := id h
  have c4 := hx.blk.cell (i := 4) rfl
  have hl := hx.look hs
  rw [hx0] at hl
  unfold encH at hl
  have HX := Lib.hid hx
  have HF := Lib.hid (⟨g1, hF⟩ : (∀ k, F k → k < w.heap.size) ∧ ∀ k, (k = p ∨ k = M ∨ FA k) → F k)
  have hp := hx.blk.lt
  have hM := hx.mg.lt
  have hFA : ∀ k, FA k → k < w.heap.size := fun k hk => hx.ag.lt hk
  have HH := Lib.hid h
  clear hx hF h g1
  cases hw : x.waits with
  | true =>
    have HRES := Lib.hid (fun w1 (hs1 : Step (fun _ => False) w w1) => result2_calls (HH.out.same hs1) hu hep hs false h0 hx0 hpk)
    obtain ⟨⟨x0, x1, x2, x3⟩, x4⟩ := x
    simp only at hw hl
    subst hw
    obtain ⟨rl, hrl⟩ : ∃ rl, resE (resP ⟨x0, x1, x2, x3⟩ c false at_) s at_ = rl := ⟨_, rfl⟩
    simp only at HRES
    rw [hrl] at HRES
    have hrl1 : rl.length ≤ 1 := by rw [← hrl]; unfold resE; split <;> simp
    have HRL := Lib.hid hrl
    clear hrl hx0
    go_enter Try.func33, Try.ntmps33
    go_upto_region 2 with (fail)
    refine alloc_next (cs := [.bool x0, .int .i64 x1, .int .i64 x2, .int .i64 x3, .bool true]) ?_
    intro w1 hO hs1
    have o4 := hO.cell (i := 4) rfl
    generalize hxb : w.heap.size = xb at *
    have HXB := Lib.hid hxb
    clear hxb hl
    have hal : Step (fun _ => False) w1 (w1.alloc (.cells #[.int .i64 2, .string s, .int .i64 at_] 33)) := (Step.refl _ _).alloc _
    have hE1 : ESeg (w1.alloc (.cells #[.int .i64 2, .string s, .int .i64 at_] 33)) (some ⟨w1.heap.size, 0, none⟩) 1 1 [⟨2, s, at_⟩] := eseg_one (blk_new w1 (evc ⟨2, s, at_⟩) 33)
    have hsz1 := hs1.size
    have HAPP := Lib.hid (fun w2 A2 c2 (hs2 : Step F (w1.alloc (.cells #[.int .i64 2, .string s, .int .i64 at_] 33)) w2) (hA2 : ESeg w2 A2 rl.length c2 rl) => run_app_e (hE1.keep hs2 (fun k hk h => by
      have e1 : w1.heap.size = k := Option.some.inj hk
      have := HF.out.1 k h
      have := HXB.out
      omega)) hA2 (.inl (by simp)) (by omega))
    have HE1 := Lib.hid hE1
    clear hE1
    go_wp2_with (first | (go_at_call 34; refine (HRES.out _ (hs1.same hal)).mono ?_; rintro e w2 ⟨F2, A2, c2, rfl, hA2, hf2, hI2, hs2, hn2⟩; obtain ⟨A3, c3, w3, hap, hA3, hs3, hn3⟩ := HAPP.out w2 A2 c2 hs2 hA2) | (at_builtin; refine wpList_app (by rfl) (.tmp 19) (.tmp 23) 30 (by rfl) (by rfl) (by rfl) hap ?_))
    go_ret
    have hz2 := hs2.size
    have hzal : (w1.alloc (.cells #[.int .i64 2, .string s, .int .i64 at_] 33)).heap.size = w1.heap.size + 1 := by show (w1.heap.push _).size = _; simp
    have hF2n : ∀ k, w1.heap.size = k → ¬ F2 k := fun k e h => by
      rcases hn2 k h with h | h
      · have := HF.out.1 k h; have := HXB.out; omega
      · omega
    have hs3' : Step (fun k => k = w1.heap.size) w2 w3 := hs3.mono (fun k _ e => (Option.some.inj e : w1.heap.size = k).symm)
    have hI3 := hI2.keep hs3' (fun k hk e => hF2n k e.symm hk)
    have eE : turE ⟨⟨x0, x1, x2, x3⟩, true⟩ c s at_ = ⟨2, s, at_⟩ :: rl := by unfold turE; rw [if_pos rfl]; rw [← HRL.out]
    rw [eE]
    refine ⟨F2, A3, c3, by rw [List.length_cons, Nat.add_comm rl.length 1]; rfl, by rw [List.length_cons, Nat.add_comm rl.length 1]; exact hA3, fun k hk => ?_, ?_, ?_, fun k hk => ?_⟩
    · rcases hn3 with e | ⟨j, e, hj⟩
      · have e1 : w1.heap.size = k := Option.some.inj (e.symm.trans hk)
        exact ⟨by have := HXB.out; omega, hF2n k e1⟩
      · rw [hk] at e
        obtain rfl := Option.some.inj e
        refine ⟨by have := HXB.out; omega, fun h => ?_⟩
        have := hI2.1 _ h
        omega
    · unfold turQ turV turN
      simp only [if_true]
      exact hI3
    · exact ((hs1.same hal).mono (fun _ _ h => h.elim)).same hs2 |>.trans hs3' (fun j hj e => by have := HXB.out; omega)
    · exact (hn2 k hk).imp id (fun h => by have := HXB.out; omega)
  | false =>
    obtain ⟨⟨x0, x1, x2, x3⟩, x4⟩ := x
    simp only at hw hl
    subst hw
    have eE : turE ⟨⟨x0, x1, x2, x3⟩, false⟩ c s at_ = [⟨1, s, at_⟩] := rfl
    have eQ : turQ ⟨⟨x0, x1, x2, x3⟩, false⟩ c at_ = ⟨⟨x0, x1, x2, x3⟩, true⟩ := rfl
    have eV : turV ⟨⟨x0, x1, x2, x3⟩, false⟩ c at_ = at_ + c.wait := rfl
    have eN : turN ⟨⟨x0, x1, x2, x3⟩, false⟩ c at_ ep = ep := rfl
    rw [eE, eQ, eV, eN]
    clear eE eQ eV eN hx0
    go_enter Try.func33, Try.ntmps33
    go_upto_region 2 with (fail)
    refine alloc_next (cs := [.bool x0, .int .i64 x1, .int .i64 x2, .int .i64 x3, .bool false]) ?_
    intro w1 hO hs1
    have o4 := hO.cell (i := 4) rfl
    have f4 := hO.free 4
    generalize hxb : w.heap.size = xb at *
    have HXB := Lib.hid hxb
    clear hxb hl
    have hsz1 := hs1.size
    go_upto_region 5 with (fail)
    refine put_plain hO ?_
    intro w4 hO4 hs4
    have hx1 := HX.out.keep hs1 (fun _ _ h => h)
    have hx4 := hx1.keep hs4 (fun k hk e => by
      have e1 : k = xb := e
      rcases hk with h | h | h
      · omega
      · omega
      · have := hFA k h; omega)
    clear o4 f4
    have d4 := hx4.blk.cell (i := 4) rfl
    have o0 := hO4.cell (i := 0) rfl
    have o1 := hO4.cell (i := 1) rfl
    have o2 := hO4.cell (i := 2) rfl
    have o3 := hO4.cell (i := 3) rfl
    have o4 := hO4.cell (i := 4) rfl
    have HX4 := Lib.hid hx4
    clear hx4 hx1
    go_still_tail 6, (by kernel_rfl)
    have hdr4 : Step (fun _ => False) w4 w4.drew := (Step.refl _ _).drew
    have HMG := Lib.hid (HX4.out.mg.keep hdr4 (fun h => h))
    have hcok := HX4.out.cok
    go_upto_region 6 with (refine wpList_mg_put rfl (.tmp 29) (.tmp 30) (.tmp 31) 69 rfl HMG.out msk Try.underlying69 (by omega) (val := encH ⟨⟨x0, x1, x2, x3⟩, true⟩) (slit_ok s) (mskey hs) rfl rfl rfl ?_; intro w5 hM5 hs5)
    have hx5 := (HX4.out.keep hdr4 (fun _ _ h => h)).put hs5 hM5 hpk
    have hsz4 := hs4.size
    have hs45 : Step (· = M) w4 w5 := (hdr4.mono (fun _ _ h => h.elim)).same hs5
    have hI5 : HeR w5 p F c (setQ q s (some ⟨⟨x0, x1, x2, x3⟩, true⟩)) L t (u + 1) ep :=
      ⟨fun k hk => by have := HF.out.1 k hk; have := hs1.size; have := hs45.size; have := HXB.out; omega, a, M, FA, _, _, _, hx5, by omega, HF.out.2⟩
    have d1 := hx5.blk.cell (i := 1) rfl
    have HSE := Lib.hid (set_calls hI5 (by omega) hs h0 hcok.2.1)
    have hst5 : Step F w w5 := (hs1.mono (fun _ _ h => h.elim)).trans ((hs4.mono (fun k _ e => (.inl e : k = xb ∨ k = M))).same (hs45.mono (fun k _ e => .inr e))) (fun j hj h => by
      rcases h with h | h
      · have := HXB.out; omega
      · exact h ▸ HF.out.2 M (.inr (.inl rfl)))
    clear hM5 hx5 hI5 d4 o0 o1 o2 o3 o4 hs5
    go_wp2_with (go_at_call 30; refine HSE.out.mono ?_; rintro e w6 ⟨rfl, F6, hI6, hs6, hn6⟩)
    go_ret
    have hst6 : Step F w w6 := hst5.same hs6
    have hsz6 := hst5.size
    have hsz7 := hst6.size
    refine ⟨F6, some ⟨w6.heap.size, 0, none⟩, 1, rfl, eseg_one (blk_new w6 (evc ⟨1, s, at_⟩) 33), fun k hk => ?_, hI6.same ((Step.refl _ _).alloc _), hst6.then_below ((Below.refl _ _).alloc (Nat.le_refl _) _), fun k hk => (hn6 k hk).imp id (fun h => by omega)⟩
    obtain rfl : w6.heap.size = k := Option.some.inj hk
    exact ⟨hsz7, fun h => by have := hI6.1 _ h; omega⟩
end Go.Proofs.Ytghiklaeenhljaa.Hea

/- health: Run. Own work of this seat. -/
namespace Go.Proofs.Ytghiklaeenhljaa.Hea
open Go.RowKit Go.Proofs.Ytghiklaeenhljaa.Kit Go.Proofs.Ytghiklaeenhljaa.PStewardRamps Go.Proofs.YtghiklaeenhljaaW.PrintWords Go.Proofs.Ytghiklaeenhljaa.AgP Go.Proofs.Ytghiklaeenhljaa
set_option linter.unusedVariables false
set_option linter.unusedSimpArgs false

structure Hs where
  q : ByteArray → Option Ho
  L : List (Ev ByteArray)
  t : Nat
  ep : Int
  ev : List Evn
def stepH (c : Cf) (S : Hs) (s : Ev ByteArray) (r : List (Ev ByteArray)) : Hs :=
  ⟨setQ S.q s.key (some (turQ ((S.q s.key).getD zHo) c s.tm)), (timL r S.t s.key (turV ((S.q s.key).getD zHo) c s.tm)).1, (timL r S.t s.key (turV ((S.q s.key).getD zHo) c s.tm)).2, turN ((S.q s.key).getD zHo) c s.tm S.ep, S.ev ++ turE ((S.q s.key).getD zHo) c s.key s.tm⟩
/-- From S all that is to be done up to a tick leads to R. -/
inductive Runs (c : Cf) (now : Int) : Hs → Hs → Prop
  | stop (S : Hs) (h : ∀ s ∈ S.L.head?, now < s.tm) : Runs c now S S
  | step (S R : Hs) (s : Ev ByteArray) (r : List (Ev ByteArray)) (e : S.L = s :: r) (h : ¬ now < s.tm) (k : Runs c now (stepH c S s r) R) : Runs c now S R
/-- How much is to be done, at most. -/
def load (now : Int) (L : List (Ev ByteArray)) : Nat := (L.map (fun s => (now + 1 - s.tm).toNat)).sum
theorem load_perm {now : Int} {L R : List (Ev ByteArray)} (h : L.Perm R) : load now L = load now R := (h.map _).sum_nat
theorem load_step {c : Cf} (hc : CfOk c) {now : Int} {s : Ev ByteArray} {r : List (Ev ByteArray)} (hn : ((s :: r).map (·.key)).Nodup) (h : ¬ now < s.tm) (x : Ho) (t : Nat) : load now (timL r t s.key (turV x c s.tm)).1 + 1 ≤ load now (s :: r) := by
  have hv : s.tm + 1 ≤ turV x c s.tm := by
    unfold turV
    obtain ⟨h1, h2, _⟩ := hc
    split <;> omega
  have hd : dropL r s.key = r := drop_none (fun y hy e => by
    rw [List.map_cons, List.nodup_cons] at hn
    exact hn.1 (e ▸ List.mem_map_of_mem hy))
  have h0 : load now (s :: r) = (now + 1 - s.tm).toNat + load now r := by simp [load]
  unfold timL
  split
  · have hp := perm_set r s.key (turV x c s.tm) ((t + 1 : Nat) : Int)
    rw [hd] at hp
    rw [load_perm hp, h0]
    have h1 : load now (⟨s.key, turV x c s.tm, ((t + 1 : Nat) : Int)⟩ :: r) = (now + 1 - turV x c s.tm).toNat + load now r := by simp [load]
    rw [h1]
    omega
  · rw [hd]
    show (load now r : Nat) + 1 ≤ _
    rw [h0]
    omega
theorem turE_len (x : Ho) (c : Cf) (s : ByteArray) (at_ : Int) : 1 ≤ (turE x c s at_).length ∧ (turE x c s at_).length ≤ 2 := by
  unfold turE
  split
  · unfold resE
    split <;> simp
  · simp
theorem getD_ok {q : ByteArray → Option Ho} (h : ∀ s x, q s = some x → PbOk x.pb) (s : ByteArray) : PbOk ((q s).getD zHo).pb := by
  cases hq : q s with
  | none => unfold PbOk; simp [zHo]
  | some x => exact h s x hq
theorem timL_tm {r : List (Ev ByteArray)} {t : Nat} {k : ByteArray} {v : Int} (hv : 0 ≤ v) (h : ∀ s ∈ r, 0 ≤ s.tm ∧ s.tm ≤ 1099511627776) : ∀ s ∈ (timL r t k v).1, 0 ≤ s.tm ∧ s.tm ≤ 1099511627776 := by
  intro s hs
  unfold timL at hs
  split at hs
  · rcases mem_set.1 hs with rfl | ⟨h1, _⟩
    · exact ⟨hv, by assumption⟩
    · exact h s h1
  · exact h s (mem_drop.1 hs).1
theorem turN_bd (x : Ho) (c : Cf) (at_ ep : Int) : ep ≤ turN x c at_ ep ∧ turN x c at_ ep ≤ ep + 1 := by
  unfold turN
  split
  · split <;> omega
  · omega
def slen : Value → Nat
  | .slice _ n _ => n
  | _ => 0

set_option maxRecDepth 100000 in
set_option maxHeartbeats 4000000 in
theorem run_calls {w : World} {p : Nat} {F : Nat → Prop} {c : Cf} {q : ByteArray → Option Ho} {L : List (Ev ByteArray)} {t u : Nat} {ep : Int} (h : HeR w p F c q L t u ep) (now : Int) (hu : u + 2 * load now L ≤ 70000) (hep : 0 ≤ ep ∧ ep + load now L ≤ 1000000) (htm : ∀ s ∈ L, 0 ≤ s.tm ∧ s.tm ≤ 1099511627776) :
    Calls Try.prog 10 #[.pointer (some ⟨p, 0, none⟩), .int .i64 now] w fun e w' => ∃ (R : Hs) (F' : Nat → Prop) (A : Option Addr) (cA u' : Nat), Runs c now ⟨q, L, t, ep, []⟩ R ∧ e = .returned (.slice A R.ev.length cA) ∧ ESeg w' A R.ev.length cA R.ev ∧ (∀ k, blockOf A = some k → w.heap.size ≤ k ∧ ¬ F' k) ∧
      HeR w' p F' c R.q R.L R.t u' R.ep ∧ u' + 2 * load now R.L ≤ u + 2 * load now L ∧ (0 ≤ R.ep ∧ R.ep + load now R.L ≤ ep + load now L) ∧ (∀ s ∈ R.L, 0 ≤ s.tm ∧ s.tm ≤ 1099511627776) ∧ Step F w w' ∧ ∀ k, F' k → F k ∨ w.heap.size ≤ k := by
  obtain ⟨N, hN⟩ : ∃ N, load now L = N := ⟨_, rfl⟩
  rw [hN] at hu hep ⊢
  have HN := Lib.hid hN
  have HH := Lib.hid h
  have HT := Lib.hid htm
  clear hN h htm
  go_enter Try.func10, Try.ntmps10
  go_wp2
  go_loopw [5, 6, 7, 8] (fun v5 v6 v7 v8 wr => ∃ (S : Hs) (F1 : Nat → Prop) (A : Option Addr) (cA u1 : Nat), v5 = .slice A S.ev.length cA ∧ ESeg wr A S.ev.length cA S.ev ∧ (∀ k, blockOf A = some k → w.heap.size ≤ k ∧ ¬ F1 k) ∧ HeR wr p F1 c S.q S.L S.t u1 S.ep ∧ (∀ R, Runs c now S R → Runs c now ⟨q, L, t, ep, []⟩ R) ∧ u1 + 2 * load now S.L ≤ u + 2 * N ∧ (0 ≤ S.ep ∧ S.ep + load now S.L ≤ ep + N) ∧ S.ev.length + 2 * load now S.L ≤ 2 * N ∧ (∀ s ∈ S.L, 0 ≤ s.tm ∧ s.tm ≤ 1099511627776) ∧ Step F w wr ∧ ∀ k, F1 k → F k ∨ w.heap.size ≤ k) (fun v5 _ _ _ _ => 2 * N - slen v5)
  case atStart => exact ⟨⟨q, L, t, ep, []⟩, F, none, 0, u, rfl, eseg_nil _, fun k hk => (by cases hk), HH.out, fun R h => h, by show u + 2 * load now L ≤ _; rw [HN.out]; exact Nat.le_refl _, ⟨by show 0 ≤ ep; omega, by show ep + ((load now L : Nat) : Int) ≤ _; rw [HN.out]; exact Int.le_refl _⟩, by show 0 + 2 * load now L ≤ _; rw [HN.out]; omega, HT.out, Step.refl _ _, fun k hk => .inl hk⟩
  case round =>
    obtain ⟨⟨Sq, SL, St, Sep, Sev⟩, F1, A, cA, u1, rfl, hA, hAf, hI, hR, hu1, hep1, hev1, htm1, hst, hn1⟩ := hrel
    simp only at hA hI hR hu1 hep1 hev1 htm1 ⊢
    have hi1 := hI.1
    obtain ⟨g1, a, M, FA, n, m, f, hx, hnu, hF⟩ := id hI
    have c5 := hx.blk.cell (i := 5) rfl
    have hnd := hx.ag.nodup
    have hkok := hx.ag.kok
    have HP := Lib.hid (fun (h1 : t ≤ t) => AgStr.apop_calls hx.ag (by omega) now)
    have HX := Lib.hid hx
    have HI := Lib.hid hI
    have HR := Lib.hid hR
    have HST := Lib.hid hst
    have HA := Lib.hid hA
    have HT1 := Lib.hid htm1
    have hsz := hst.size
    clear hx hI hR hst hA htm1
    cases SL with
    | nil =>
      have HPP := Lib.hid (HP.out (Nat.le_refl _))
      have e1 : AgStr.popV [] now = (⟨#[]⟩, 0, false) := rfl
      have e2 : AgStr.popL [] now = [] := rfl
      rw [e1, e2] at HPP
      clear HP e1 e2
      go_wp2_with (go_at_call 32; refine HPP.out.mono ?_; rintro e w2 ⟨rfl, hA2, hs2⟩)
      go_ret
      have hI2 : HeR w2 p F1 c Sq [] St u1 Sep := ⟨fun k hk => by have := hi1 k hk; have := hs2.size; omega, a, M, FA, n, m, f, ⟨HX.out.blk.keep hs2 HX.out.ne.1, hA2, HX.out.mg.keep hs2 HX.out.ne.2.1, HX.out.fn, HX.out.ne, HX.out.ok, HX.out.cok⟩, hnu, hF⟩
      have hstw : Step F w w2 := HST.out.trans (hs2.mono (fun k _ h => hF k (.inr (.inr h)))) (fun j hj h => (hn1 j h).elim id (fun h => by omega))
      exact ⟨⟨Sq, [], St, Sep, Sev⟩, F1, A, cA, u1, HR.out _ (.stop _ (fun s hs => by cases hs)), rfl, HA.out.keep hs2 (fun k hk h => (hAf k hk).2 (hF k (.inr (.inr h)))), hAf, hI2, hu1, hep1, HT1.out, hstw, hn1⟩
    | cons s r =>
      by_cases hnow : now < s.tm
      · have HPP := Lib.hid (HP.out (Nat.le_refl _))
        have e1 : AgStr.popV (s :: r) now = (⟨#[]⟩, 0, false) := by unfold AgStr.popV; simp only; rw [if_pos hnow]
        have e2 : AgStr.popL (s :: r) now = s :: r := by unfold AgStr.popL; simp only; rw [if_pos hnow]
        rw [e1, e2] at HPP
        have HNW := Lib.hid hnow
        clear HP e1 e2 hnow
        go_wp2_with (go_at_call 32; refine HPP.out.mono ?_; rintro e w2 ⟨rfl, hA2, hs2⟩)
        go_ret
        have hI2 : HeR w2 p F1 c Sq (s :: r) St u1 Sep := ⟨fun k hk => by have := hi1 k hk; have := hs2.size; omega, a, M, FA, n, m, f, ⟨HX.out.blk.keep hs2 HX.out.ne.1, hA2, HX.out.mg.keep hs2 HX.out.ne.2.1, HX.out.fn, HX.out.ne, HX.out.ok, HX.out.cok⟩, hnu, hF⟩
        have hstw : Step F w w2 := HST.out.trans (hs2.mono (fun k _ h => hF k (.inr (.inr h)))) (fun j hj h => (hn1 j h).elim id (fun h => by omega))
        exact ⟨⟨Sq, s :: r, St, Sep, Sev⟩, F1, A, cA, u1, HR.out _ (.stop _ (fun y hy => by
          obtain rfl : s = y := by simpa using hy
          exact HNW.out)), rfl, HA.out.keep hs2 (fun k hk h => (hAf k hk).2 (hF k (.inr (.inr h)))), hAf, hI2, hu1, hep1, HT1.out, hstw, hn1⟩
      · have HPP := Lib.hid (HP.out (Nat.le_refl _))
        have e1 : AgStr.popV (s :: r) now = (s.key, s.tm, true) := by unfold AgStr.popV; simp only; rw [if_neg hnow]
        have e2 : AgStr.popL (s :: r) now = r := by unfold AgStr.popL; simp only; rw [if_neg hnow]
        rw [e1, e2] at HPP
        have hks : s.key.size ≤ 1000 := hkok s (List.mem_cons_self ..)
        have hstm := HT1.out s (List.mem_cons_self ..)
        have hstep := load_step HX.out.cok hnd hnow ((Sq s.key).getD zHo) St
        have hpk := getD_ok HX.out.ok s.key
        have hll := turE_len ((Sq s.key).getD zHo) c s.key s.tm
        have hnb := turN_bd ((Sq s.key).getD zHo) c s.tm Sep
        have HSH : ∀ R, Runs c now (stepH c ⟨Sq, s :: r, St, Sep, Sev⟩ s r) R → Runs c now ⟨q, L, t, ep, []⟩ R := fun R hR => HR.out R (.step _ R s r rfl hnow hR)
        have hge1 : 1 ≤ load now (s :: r) := by omega
        have HTU := Lib.hid (fun w2 (hI2 : HeR w2 p F1 c Sq r St u1 Sep) => turn_calls hI2 (by omega) (by omega) hks hstm rfl hpk)
        have HTM : ∀ y ∈ (timL r St s.key (turV ((Sq s.key).getD zHo) c s.tm)).1, 0 ≤ y.tm ∧ y.tm ≤ 1099511627776 := timL_tm (by
          obtain ⟨h1, h2, _⟩ := HX.out.cok
          unfold turV
          split <;> omega) (fun y hy => HT1.out y (List.mem_cons_of_mem _ hy))
        have HSHH := Lib.hid HSH
        have HTMM := Lib.hid HTM
        clear HP e1 e2 hnow HSH HTM hkok hnd hpk
        generalize hxq : (Sq s.key).getD zHo = xx at *
        have hI2f : ∀ w2, AgStr.AgR w2 a FA r St → Step FA wr w2 → HeR w2 p F1 c Sq r St u1 Sep := fun w2 hA2 hs2 => ⟨fun k hk => by have := hi1 k hk; have := hs2.size; omega, a, M, FA, n, m, f, ⟨HX.out.blk.keep hs2 HX.out.ne.1, hA2, HX.out.mg.keep hs2 HX.out.ne.2.1, HX.out.fn, HX.out.ne, HX.out.ok, HX.out.cok⟩, hnu, hF⟩
        have HI2 := Lib.hid hI2f
        have HAPP := Lib.hid (fun w3 A3 c3 (hA3 : ESeg w3 A3 (turE xx c s.key s.tm).length c3 (turE xx c s.key s.tm)) (hA : ESeg w3 A Sev.length cA Sev) => run_app_e hA hA3 (.inr (fun e => by rw [e] at hll; simp at hll)) (by omega))
        have hfr : ∀ k, F1 k → k < wr.heap.size := hi1
        obtain ⟨kk, hkk⟩ : ∃ kk, s.key = kk := ⟨_, rfl⟩
        obtain ⟨tt, htt⟩ : ∃ tt, s.tm = tt := ⟨_, rfl⟩
        simp only [hkk, htt] at HPP HTU HAPP hll hks hstm hstep hnb
        have HKK := Lib.hid hkk
        have HTT := Lib.hid htt
        obtain ⟨te, hte⟩ : ∃ te, turE xx c kk tt = te := ⟨_, rfl⟩
        rw [hte] at HTU HAPP hll
        have HTE := Lib.hid hte
        have hS : stepH c ⟨Sq, s :: r, St, Sep, Sev⟩ s r = ⟨setQ Sq kk (some (turQ xx c tt)), (timL r St kk (turV xx c tt)).1, (timL r St kk (turV xx c tt)).2, turN xx c tt Sep, Sev ++ te⟩ := by
          show (⟨setQ Sq s.key (some (turQ ((Sq s.key).getD zHo) c s.tm)), (timL r St s.key (turV ((Sq s.key).getD zHo) c s.tm)).1, (timL r St s.key (turV ((Sq s.key).getD zHo) c s.tm)).2, turN ((Sq s.key).getD zHo) c s.tm Sep, Sev ++ turE ((Sq s.key).getD zHo) c s.key s.tm⟩ : Hs) = _
          rw [hxq, hkk, htt, hte]
        have HSE := Lib.hid hS
        clear hS
        clear hkk htt hte hI2f
        go_wp2_with (first | (go_at_call 32; refine HPP.out.mono ?_; rintro e w2 ⟨rfl, hA2, hs2⟩) | (go_at_call 33; refine (HTU.out _ (HI2.out _ hA2 hs2)).mono ?_; rintro e w3 ⟨F3, A3, c3, rfl, hA3, hf3, hI3, hs3, hn3⟩; obtain ⟨A4, c4, w4, hap, hA4, hs4, hn4⟩ := HAPP.out w3 A3 c3 hA3 ((HA.out.keep hs2 (fun k hk h => (hAf k hk).2 (hF k (.inr (.inr h))))).keep hs3 (fun k hk h => (hAf k hk).2 h))) | (at_builtin; refine wpList_app (by rfl) (.tmp 22) (.tmp 26) 30 (by rfl) (by rfl) (by rfl) hap ?_))
        have hz2 := hs2.size
        have hz3 := hs3.size
        have hz4 := hs4.size
        have hAl : ∀ k, blockOf A = some k → k < wr.heap.size := fun k hk => HA.out.lt hk
        have hAF3 : ∀ k, blockOf A = some k → ¬ F3 k := fun k hk h => (hn3 k h).elim (hAf k hk).2 (fun h => by have := hAl k hk; omega)
        have hI4 := hI3.keep hs4 (fun k hk h => hAF3 k h hk)
        have hsl : (Sev ++ te).length = Sev.length + te.length := List.length_append
        have hstw : Step F w w4 := HST.out.trans (((hs2.mono (G := fun k => F1 k ∨ blockOf A = some k) (fun k _ h => .inl (hF k (.inr (.inr h))))).same (hs3.mono (fun k _ h => .inl h))).same (hs4.mono (fun k _ h => .inr h))) (fun j hj h => by
          rcases h with h | h
          · exact (hn1 j h).elim id (fun h => by omega)
          · have := (hAf j h).1; omega)
        have hn4w : ∀ k, F3 k → F k ∨ w.heap.size ≤ k := fun k hk => (hn3 k hk).elim (hn1 k) (fun h => .inr (by omega))
        have hA4f : ∀ k, blockOf A4 = some k → w.heap.size ≤ k ∧ ¬ F3 k := fun k hk => by
          rcases hn4 with e | ⟨j, e, hj⟩
          · rw [hk] at e
            exact ⟨(hAf k e.symm).1, hAF3 k e.symm⟩
          · rw [hk] at e
            obtain rfl := Option.some.inj e
            exact ⟨by omega, fun h => by have := hI3.1 _ h; omega⟩
        go_roundw
        case rel =>
          refine ⟨⟨setQ Sq kk (some (turQ xx c tt)), (timL r St kk (turV xx c tt)).1, (timL r St kk (turV xx c tt)).2, turN xx c tt Sep, Sev ++ te⟩, F3, A4, c4, u1 + 2, by rw [hsl], by show ESeg w4 A4 (Sev ++ te).length c4 (Sev ++ te); rw [hsl]; exact hA4, hA4f, hI4, fun R hR => HSHH.out R (by rw [HSE.out]; exact hR), ?_, ⟨?_, ?_⟩, ?_, ?_, hstw, hn4w⟩
          · show u1 + 2 + 2 * load now (timL r St kk (turV xx c tt)).1 ≤ _
            omega
          · show 0 ≤ turN xx c tt Sep
            omega
          · show turN xx c tt Sep + ((load now (timL r St kk (turV xx c tt)).1 : Nat) : Int) ≤ _
            omega
          · show (Sev ++ te).length + 2 * load now (timL r St kk (turV xx c tt)).1 ≤ _
            rw [hsl]
            omega
          · show ∀ y ∈ (timL r St kk (turV xx c tt)).1, _
            have := HTMM.out
            rw [HKK.out, HTT.out] at this
            exact this
        case measure =>
          simp only [slen]
          omega
end Go.Proofs.Ytghiklaeenhljaa.Hea

/- health: what HealthEpochs asks of Run's events, in plain Lean. Own work of this seat. -/
namespace Go.Proofs.Ytghiklaeenhljaa.Hea
open Go.RowKit Go.Proofs.Ytghiklaeenhljaa.Kit Go.Proofs.Ytghiklaeenhljaa.AgP Go.Proofs.Ytghiklaeenhljaa
set_option linter.unusedVariables false
set_option linter.unusedSimpArgs false

def evOk (c : Cf) (k : ByteArray → Int) (e : Evn) : Prop := (e.kind = 1 → k e.name = 0) ∧ (e.kind = 2 → k e.name = 1 + e.tm - c.wait)
def evK (k : ByteArray → Int) (e : Evn) : ByteArray → Int := fun s => if e.kind = 1 then (if s = e.name then 1 + e.tm else k s) else if e.kind = 2 then (if s = e.name then 0 else k s) else k s
def evsOk (c : Cf) : (ByteArray → Int) → List Evn → Prop
  | _, [] => True
  | k, e :: r => evOk c k e ∧ evsOk c (evK k e) r
def evsK (k : ByteArray → Int) (l : List Evn) : ByteArray → Int := l.foldl evK k
def turned : List Evn → Int
  | [] => 0
  | e :: r => (if e.kind = 1 ∨ e.kind = 2 then 0 else 1) + turned r
theorem evsOk_append {c : Cf} : ∀ (l r : List Evn) (k : ByteArray → Int), evsOk c k l → evsOk c (evsK k l) r → evsOk c k (l ++ r)
  | [], r, k, _, h => h
  | e :: l, r, k, h, h' => ⟨h.1, evsOk_append l r _ h.2 h'⟩
theorem evsK_append (l r : List Evn) (k : ByteArray → Int) : evsK k (l ++ r) = evsK (evsK k l) r := List.foldl_append
theorem turned_append (l r : List Evn) : turned (l ++ r) = turned l + turned r := by
  induction l with
  | nil => simp [turned]
  | cons e l ih => simp only [List.cons_append, turned, ih]; omega
/-- Between Run's steps: who is asked, and when the answer is late. -/
structure AJ (c : Cf) (S : Hs) (k : ByteArray → Int) : Prop where
  mem : ∀ e ∈ S.L, (S.q e.key).isSome = true
  nd : (S.L.map (·.key)).Nodup
  asked : ∀ s, k s ≠ 0 ↔ ∃ x, S.q s = some x ∧ x.waits = true
  tm : ∀ e ∈ S.L, k e.key ≠ 0 → e.tm + 1 = k e.key + c.wait
  tm0 : ∀ e ∈ S.L, 0 ≤ e.tm
theorem timL_mem {r : List (Ev ByteArray)} {t : Nat} {s : ByteArray} {v : Int} {e : Ev ByteArray} (h : e ∈ (timL r t s v).1) : (e.key = s ∧ e.tm = v) ∨ (e ∈ r ∧ e.key ≠ s) := by
  unfold timL at h
  split at h
  · rcases mem_set.1 h with rfl | h
    · exact .inl ⟨rfl, rfl⟩
    · exact .inr h
  · exact .inr (mem_drop.1 h)
theorem timL_nd {r : List (Ev ByteArray)} {t : Nat} {s : ByteArray} {v : Int} (h : (r.map (·.key)).Nodup) : ((timL r t s v).1.map (·.key)).Nodup := by
  have hd : ((dropL r s).map (·.key)).Nodup := (List.Sublist.map _ (List.filter_sublist)).nodup h
  unfold timL
  split
  · refine ((perm_set r s v _).map (·.key)).nodup_iff.2 ?_
    rw [List.map_cons, List.nodup_cons]
    refine ⟨fun h => ?_, hd⟩
    obtain ⟨y, hy, e⟩ := List.mem_map.1 h
    exact (mem_drop.1 hy).2 e
  · exact hd
theorem resE_kind {r : Pb × Bool} {s : ByteArray} {at_ : Int} : (resE r s at_ = [] ∧ r.2 = false) ∨ ∃ e, resE r s at_ = [e] ∧ (e.kind = 3 ∨ e.kind = 4) ∧ r.2 = true := by
  unfold resE
  cases hr : r.2 with
  | false => exact .inl ⟨rfl, rfl⟩
  | true => exact .inr ⟨_, rfl, by cases r.1.up <;> simp, rfl⟩
theorem aj_step {c : Cf} (hc : CfOk c) {S : Hs} {k : ByteArray → Int} {s : Ev ByteArray} {r : List (Ev ByteArray)} (h : AJ c S k) (e : S.L = s :: r) :
    AJ c (stepH c S s r) (evsK k (turE ((S.q s.key).getD zHo) c s.key s.tm)) ∧ evsOk c k (turE ((S.q s.key).getD zHo) c s.key s.tm) ∧ (stepH c S s r).ep = S.ep + turned (turE ((S.q s.key).getD zHo) c s.key s.tm) := by
  obtain ⟨h1, h2, h3, h4, h5⟩ := h
  rw [e] at h1 h2 h4 h5
  have hs5 := h5 s (List.mem_cons_self ..)
  obtain ⟨x, hx⟩ := Option.isSome_iff_exists.1 (h1 s (List.mem_cons_self ..))
  have hnd : (r.map (·.key)).Nodup := by rw [List.map_cons, List.nodup_cons] at h2; exact h2.2
  have hv : 0 ≤ turV x c s.tm := by
    obtain ⟨g1, g2, _⟩ := hc
    unfold turV
    split <;> omega
  have hk' : evsK k (turE x c s.key s.tm) = fun y => if y = s.key then (if x.waits = true then 0 else 1 + s.tm) else k y := by
    unfold turE
    cases hw : x.waits with
    | true =>
      simp only [if_true]
      rcases resE_kind (r := resP x.pb c false s.tm) (s := s.key) (at_ := s.tm) with ⟨e1, _⟩ | ⟨e1, e2, e3, _⟩
      · rw [e1]; rfl
      · rw [e2]
        funext y
        show evK (evK k ⟨2, s.key, s.tm⟩) e1 y = _
        unfold evK
        rcases e3 with e3 | e3 <;> simp [e3]
    | false =>
      simp only [Bool.false_eq_true, if_false]
      funext y
      show evK k ⟨1, s.key, s.tm⟩ y = _
      unfold evK
      simp
  unfold stepH
  simp only [hx, Option.getD_some]
  refine ⟨⟨fun y hy => ?_, timL_nd hnd, fun y => ?_, fun y hy => ?_, fun y hy => ?_⟩, ?_, ?_⟩
  · unfold setQ
    rcases timL_mem hy with ⟨e1, _⟩ | ⟨e1, e2⟩
    · simp [e1]
    · simp only [if_neg e2]
      exact h1 y (List.mem_cons_of_mem _ e1)
  · rw [hk']
    unfold setQ
    by_cases ey : y = s.key
    · simp only [if_pos ey]
      unfold turQ
      cases hw : x.waits <;> simp <;> omega
    · simp only [if_neg ey]
      exact h3 y
  · rw [hk']
    rcases timL_mem hy with ⟨e1, e2⟩ | ⟨e1, e2⟩
    · simp only [if_pos e1, e2]
      unfold turV
      cases hw : x.waits <;> simp <;> omega
    · simp only [if_neg e2]
      exact h4 y (List.mem_cons_of_mem _ e1)
  · rcases timL_mem hy with ⟨e1, e2⟩ | ⟨e1, e2⟩
    · rw [e2]; exact hv
    · exact h5 y (List.mem_cons_of_mem _ e1)
  · unfold turE
    cases hw : x.waits with
    | true =>
      simp only [if_true]
      have hk : k s.key ≠ 0 := (h3 s.key).2 ⟨x, hx, hw⟩
      have := h4 s (List.mem_cons_self ..) hk
      refine ⟨⟨fun h => by simp at h, fun _ => by show k s.key = 1 + s.tm - c.wait; omega⟩, ?_⟩
      rcases resE_kind (r := resP x.pb c false s.tm) (s := s.key) (at_ := s.tm) with ⟨e1, _⟩ | ⟨e1, e2, e3, _⟩
      · rw [e1]; trivial
      · rw [e2]
        exact ⟨⟨fun h => by omega, fun h => by omega⟩, trivial⟩
    | false =>
      simp only [Bool.false_eq_true, if_false]
      refine ⟨⟨fun _ => ?_, fun h => by simp at h⟩, trivial⟩
      show k s.key = 0
      refine Classical.byContradiction fun hk => ?_
      obtain ⟨x', g1, g2⟩ := (h3 s.key).1 hk
      rw [hx] at g1
      obtain rfl := Option.some.inj g1
      rw [hw] at g2
      cases g2
  · unfold turN turE
    cases hw : x.waits with
    | true =>
      simp only [if_true]
      rcases resE_kind (r := resP x.pb c false s.tm) (s := s.key) (at_ := s.tm) with ⟨e1, e2⟩ | ⟨e1, e2, e3, e4⟩
      · rw [e1, e2]; simp [turned]
      · rw [e2, e4]
        rcases e3 with e3 | e3 <;> simp [turned, e3]
    | false => simp [turned]
theorem aj_run {c : Cf} (hc : CfOk c) {now : Int} {S R : Hs} (h : Runs c now S R) : ∀ k, AJ c S k → ∃ l, R.ev = S.ev ++ l ∧ AJ c R (evsK k l) ∧ evsOk c k l ∧ R.ep = S.ep + turned l ∧ ∀ e ∈ l, e.tm ≤ now := by
  induction h with
  | stop S _ => exact fun k hk => ⟨[], (List.append_nil _).symm, hk, trivial, by simp [turned], fun e he => by simp at he⟩
  | step S R s r e hn _ ih =>
    intro k hk
    obtain ⟨a1, a2, a3⟩ := aj_step hc hk e
    obtain ⟨l, b1, b2, b3, b4, b5⟩ := ih _ a1
    refine ⟨turE ((S.q s.key).getD zHo) c s.key s.tm ++ l, ?_, by rw [evsK_append]; exact b2, evsOk_append _ _ _ a2 b3, by rw [turned_append, b4, a3]; omega, fun y hy => ?_⟩
    · rw [b1]
      exact List.append_assoc _ _ _
    · rcases List.mem_append.1 hy with hy | hy
      · have : y.tm = s.tm := by
          unfold turE resE at hy
          split at hy
          · split at hy
            · simp only [List.mem_cons, List.not_mem_nil, or_false] at hy
              rcases hy with rfl | rfl <;> rfl
            · simp only [List.mem_cons, List.not_mem_nil, or_false] at hy
              rw [hy]
          · simp only [List.mem_cons, List.not_mem_nil, or_false] at hy
            rw [hy]
        omega
      · exact b5 y hy
/-- Nothing to be seen has turned. -/
def SameV (q q' : ByteArray → Option Ho) : Prop := ∀ s, (q s).map (fun x => (x.pb.up, x.pb.since)) = (q' s).map (fun x => (x.pb.up, x.pb.since))
theorem SameV.up {q q' : ByteArray → Option Ho} (h : SameV q q') (s : ByteArray) : upV q s = upV q' s ∧ (q s).isSome = (q' s).isSome := by
  have := h s
  unfold upV
  cases h1 : q s with
  | none => cases h2 : q' s with
    | none => simp
    | some y => rw [h1, h2] at this; simp at this
  | some x => cases h2 : q' s with
    | none => rw [h1, h2] at this; simp at this
    | some y =>
      rw [h1, h2] at this
      simp only [Option.map_some, Option.some.injEq, Prod.mk.injEq] at this
      simp [this.1, this.2]
theorem SameV.trans {a b c : ByteArray → Option Ho} (h : SameV a b) (k : SameV b c) : SameV a c := fun s => (h s).trans (k s)
theorem turned_nonneg : ∀ l : List Evn, 0 ≤ turned l
  | [] => Int.le_refl _
  | e :: r => by
    have := turned_nonneg r
    unfold turned
    split <;> omega
theorem resP_same {p : Pb} {c : Cf} {g : Bool} {now : Int} (h : (resP p c g now).2 = false) : (resP p c g now).1.up = p.up ∧ (resP p c g now).1.since = p.since := by
  obtain ⟨u, a, b, s⟩ := p
  unfold resP at h ⊢
  cases g <;> cases u <;> simp only at h ⊢
  · simp
  · split at h
    · cases h
    · rename_i hh; rw [if_neg hh]; exact ⟨rfl, rfl⟩
  · split at h
    · cases h
    · rename_i hh; rw [if_neg hh]; exact ⟨rfl, rfl⟩
  · simp
theorem samev_set {q : ByteArray → Option Ho} {s : ByteArray} {x y : Ho} (hx : q s = some x) (h : y.pb.up = x.pb.up ∧ y.pb.since = x.pb.since) : SameV q (setQ q s (some y)) := fun r => by
  unfold setQ
  by_cases e : r = s
  · rw [e, hx, if_pos rfl]
    simp [h.1, h.2]
  · rw [if_neg e]
theorem samev_step {c : Cf} {S : Hs} {s : Ev ByteArray} {r : List (Ev ByteArray)} {x : Ho} (hx : S.q s.key = some x) (h : turned (turE x c s.key s.tm) = 0) : SameV S.q (stepH c S s r).q := by
  show SameV S.q (setQ S.q s.key (some (turQ ((S.q s.key).getD zHo) c s.tm)))
  rw [hx]
  refine samev_set hx ?_
  show (turQ x c s.tm).pb.up = _ ∧ (turQ x c s.tm).pb.since = _
  unfold turQ
  unfold turE at h
  cases hw : x.waits with
  | true =>
    rw [hw] at h
    simp only [if_true] at h ⊢
    refine resP_same ?_
    rcases resE_kind (r := resP x.pb c false s.tm) (s := s.key) (at_ := s.tm) with ⟨_, e2⟩ | ⟨e1, e2, e3, e4⟩
    · exact e2
    · rw [e2] at h
      rcases e3 with e3 | e3 <;> simp [turned, e3] at h
  | false => simp
theorem samev_run {c : Cf} (hc : CfOk c) {now : Int} {S R : Hs} (h : Runs c now S R) : ∀ k, AJ c S k → ∀ l, R.ev = S.ev ++ l → turned l = 0 → SameV S.q R.q := by
  induction h with
  | stop S _ => exact fun k hk l _ _ s => rfl
  | step S R s r e hn hR ih =>
    intro k hk l hl ht
    obtain ⟨x, hx⟩ := Option.isSome_iff_exists.1 (hk.mem s (by rw [e]; exact List.mem_cons_self ..))
    obtain ⟨a1, a2, a3⟩ := aj_step hc hk e
    obtain ⟨l2, b1, b2, b3, b4, b5⟩ := aj_run hc hR _ a1
    have hl2 : l = turE ((S.q s.key).getD zHo) c s.key s.tm ++ l2 := by
      have : S.ev ++ l = S.ev ++ (turE ((S.q s.key).getD zHo) c s.key s.tm ++ l2) := by
        rw [← hl, b1]
        exact List.append_assoc _ _ _
      exact List.append_cancel_left this
    rw [hl2, turned_append] at ht
    have n1 := turned_nonneg (turE ((S.q s.key).getD zHo) c s.key s.tm)
    have n2 := turned_nonneg l2
    refine SameV.trans (samev_step (r := r) hx ?_) (ih _ a1 l2 b1 (by omega))
    rw [hx] at n1 ht
    simp only [Option.getD_some] at n1 ht
    omega
end Go.Proofs.Ytghiklaeenhljaa.Hea

/- health: Result, Add, New. Own work of this seat. -/
namespace Go.Proofs.Ytghiklaeenhljaa.Hea
open Go.RowKit Go.Proofs.Ytghiklaeenhljaa.Kit Go.Proofs.Ytghiklaeenhljaa.PStewardRamps Go.Proofs.YtghiklaeenhljaaW.PrintWords Go.Proofs.Ytghiklaeenhljaa.AgP Go.Proofs.Ytghiklaeenhljaa
set_option linter.unusedVariables false
set_option linter.unusedSimpArgs false

theorem tick_calls (now : Int) (w : World) : Calls Try.prog 28 #[.int .i64 now] w fun e w' => e = .returned (.int .i64 (AgStr.clipT now)) ∧ Step (fun _ => False) w w' := by
  have hf : health_tick.f now = some (AgStr.clipT now) := by
    unfold health_tick.f
    congr 1
    unfold AgStr.clipT mx mn
    split <;> split <;> omega
  exact (health_tick.calls now _ w hf).mono fun e w' h => ⟨h.1, step_bel h.2⟩

set_option maxRecDepth 100000 in
set_option maxHeartbeats 2000000 in
theorem res_none {w : World} {p : Nat} {F : Nat → Prop} {c : Cf} {q : ByteArray → Option Ho} {L : List (Ev ByteArray)} {t u : Nat} {ep : Int} (h : HeR w p F c q L t u ep) {s : ByteArray} (hs : s.size ≤ 1000) (good : Bool) (now : Int) (hq : q s = none) :
    Calls Try.prog 12 #[.pointer (some ⟨p, 0, none⟩), .string s, .bool good, .int .i64 now] w fun e w' => e = .returned (.tuple #[.slice none 0 0, .int .i64 6]) ∧ Step (fun _ => False) w w' := by
  obtain ⟨g1, a, M, FA, n, m, f, hx, hnu, hF⟩ := h
  have c4 := hx.blk.cell (i := 4) rfl
  have hl := hx.look_ok hs
  rw [hq] at hl
  unfold encH at hl
  simp only [Option.getD_none, Option.isSome_none] at hl
  clear hx hF
  go_enter Try.func12, Try.ntmps12
  go_wp2
  go_ret2
  exact ⟨rfl, (Step.refl _ _).alloc _⟩
set_option maxRecDepth 100000 in
set_option maxHeartbeats 2000000 in
theorem res_idle {w : World} {p : Nat} {F : Nat → Prop} {c : Cf} {q : ByteArray → Option Ho} {L : List (Ev ByteArray)} {t u : Nat} {ep : Int} (h : HeR w p F c q L t u ep) {s : ByteArray} (hs : s.size ≤ 1000) (good : Bool) (now : Int) {x : Ho} (hq : q s = some x) (hw : x.waits = false) :
    Calls Try.prog 12 #[.pointer (some ⟨p, 0, none⟩), .string s, .bool good, .int .i64 now] w fun e w' => e = .returned (.tuple #[.slice none 0 0, .int .i64 9]) ∧ Step (fun _ => False) w w' := by
  obtain ⟨g1, a, M, FA, n, m, f, hx, hnu, hF⟩ := h
  have c4 := hx.blk.cell (i := 4) rfl
  have hl := hx.look_ok hs
  rw [hq] at hl
  unfold encH at hl
  obtain ⟨⟨x0, x1, x2, x3⟩, x4⟩ := x
  simp only at hw
  subst hw
  simp only [Option.getD_some, Option.isSome_some] at hl
  clear hx hF
  go_enter Try.func12, Try.ntmps12
  go_upto_region 2 with (fail)
  refine alloc_next (cs := [.bool x0, .int .i64 x1, .int .i64 x2, .int .i64 x3, .bool false]) ?_
  intro w1 hO hs1
  have o4 := hO.cell (i := 4) rfl
  go_wp2
  go_ret2
  exact ⟨rfl, hs1⟩
set_option maxRecDepth 100000 in
set_option maxHeartbeats 2000000 in
theorem res_waits {w : World} {p : Nat} {F : Nat → Prop} {c : Cf} {q : ByteArray → Option Ho} {L : List (Ev ByteArray)} {t u : Nat} {ep : Int} (h : HeR w p F c q L t u ep) (hu : u ≤ 79000) (hep : 0 ≤ ep ∧ ep ≤ 1000000000) {s : ByteArray} (hs : s.size ≤ 1000) (good : Bool) (now : Int) {x : Ho} (hq : q s = some x) (hw : x.waits = true) :
    Calls Try.prog 12 #[.pointer (some ⟨p, 0, none⟩), .string s, .bool good, .int .i64 now] w fun e w' => ∃ F' A cA, e = .returned (.tuple #[.slice A (resE (resP x.pb c good (AgStr.clipT now)) s (AgStr.clipT now)).length cA, .int .i64 0]) ∧ ESeg w' A (resE (resP x.pb c good (AgStr.clipT now)) s (AgStr.clipT now)).length cA (resE (resP x.pb c good (AgStr.clipT now)) s (AgStr.clipT now)) ∧ (∀ k, blockOf A = some k → w.heap.size ≤ k ∧ ¬ F' k) ∧
      HeR w' p F' c (setQ q s (some ⟨(resP x.pb c good (AgStr.clipT now)).1, false⟩)) (timL L t s (AgStr.clipT now + c.every)).1 (timL L t s (AgStr.clipT now + c.every)).2 (u + 2) (if (resP x.pb c good (AgStr.clipT now)).2 then ep + 1 else ep) ∧ Step F w w' ∧ ∀ k, F' k → F k ∨ w.heap.size ≤ k := by
  obtain ⟨g1, a, M, FA, n, m, f, hx, hnu, hF⟩ := id h
  have c4 := hx.blk.cell (i := 4) rfl
  have hl := hx.look_ok hs
  have hpk : PbOk x.pb := hx.ok s x hq
  have hcl : 0 ≤ AgStr.clipT now ∧ AgStr.clipT now ≤ 1099511627776 := by unfold AgStr.clipT; omega
  have HTI := Lib.hid (fun w1 => tick_calls now w1)
  have HRE := Lib.hid (fun w1 (hs1 : Step (fun _ => False) w w1) => result2_calls (h.same hs1) hu hep hs good hcl (x := x) (by rw [hq]; rfl) hpk)
  rw [hq] at hl
  unfold encH at hl
  generalize AgStr.clipT now = nw at *
  obtain ⟨⟨x0, x1, x2, x3⟩, x4⟩ := x
  simp only at hw
  subst hw
  simp only [Option.getD_some, Option.isSome_some] at hl
  simp only at HRE
  generalize resE (resP ⟨x0, x1, x2, x3⟩ c good nw) s nw = re at *
  generalize resP ⟨x0, x1, x2, x3⟩ c good nw = rr at *
  generalize (if rr.2 = true then ep + 1 else ep) = en at *
  clear hx hF h
  go_enter Try.func12, Try.ntmps12
  go_upto_region 2 with (fail)
  refine alloc_next (cs := [.bool x0, .int .i64 x1, .int .i64 x2, .int .i64 x3, .bool true]) ?_
  intro w1 hO hs1
  have o4 := hO.cell (i := 4) rfl
  go_wp2_with (first | (go_at_call 28; refine (HTI.out _).mono ?_; rintro e w2 ⟨rfl, hs2⟩) | (go_at_call 34; refine (HRE.out _ (hs1.same hs2)).mono ?_; rintro e w3 ⟨F3, A3, c3, rfl, hA3, hf3, hI3, hs3, hn3⟩))
  go_ret2
  have hz := (hs1.same hs2).size
  exact ⟨F3, A3, c3, rfl, hA3, fun k hk => ⟨by have := (hf3 k hk).1; omega, (hf3 k hk).2⟩, hI3, ((hs1.same hs2).mono (fun _ _ h => h.elim)).same hs3, fun k hk => (hn3 k hk).imp id (fun h => by omega)⟩
end Go.Proofs.Ytghiklaeenhljaa.Hea

/- health: Add. Own work of this seat. -/
namespace Go.Proofs.Ytghiklaeenhljaa.Hea
open Go.RowKit Go.Proofs.Ytghiklaeenhljaa.Kit Go.Proofs.Ytghiklaeenhljaa.PStewardRamps Go.Proofs.YtghiklaeenhljaaW.PrintWords Go.Proofs.Ytghiklaeenhljaa.AgP Go.Proofs.Ytghiklaeenhljaa
set_option linter.unusedVariables false
set_option linter.unusedSimpArgs false

theorem pnew_calls (up : Bool) (now : Int) (w : World) : Calls Try.prog 29 #[.bool up, .int .i64 now] w fun e w' => e = .returned (.agg #[.bool up, .int .i64 0, .int .i64 0, .int .i64 now]) ∧ Step (fun _ => False) w w' :=
  (probe_New.calls up now _ _ _ _ w rfl).mono fun e w' h => ⟨h.1, step_bel h.2⟩

set_option maxRecDepth 100000 in
set_option maxHeartbeats 4000000 in
theorem add_new {w : World} {p : Nat} {F : Nat → Prop} {c : Cf} {q : ByteArray → Option Ho} {L : List (Ev ByteArray)} {t u : Nat} {ep : Int} (h : HeR w p F c q L t u ep) (hu : u ≤ 79000) (hep : 0 ≤ ep ∧ ep ≤ 1000000000) {s : ByteArray} (hs : s.size ≤ 1000) (up : Bool) (now : Int) (hq : q s = none) :
    Calls Try.prog 8 #[.pointer (some ⟨p, 0, none⟩), .string s, .bool up, .int .i64 now] w fun e w' => ∃ F', e = .returned (.bool true) ∧
      HeR w' p F' c (setQ q s (some ⟨⟨up, 0, 0, AgStr.clipT now⟩, false⟩)) (timL L t s (AgStr.clipT now + c.every)).1 (timL L t s (AgStr.clipT now + c.every)).2 (u + 2) (ep + 1) ∧ Step F w w' ∧ ∀ k, F' k → F k ∨ w.heap.size ≤ k := by
  obtain ⟨g1, a, M, FA, n, m, f, hx, hnu, hF⟩ := id h
  have c4 := hx.blk.cell (i := 4) rfl
  have hl := hx.look_ok hs
  have hcok := hx.cok
  have hcl : 0 ≤ AgStr.clipT now ∧ AgStr.clipT now ≤ 1099511627776 := by unfold AgStr.clipT; omega
  have HTI := Lib.hid (fun w1 => tick_calls now w1)
  rw [hq] at hl
  unfold encH at hl
  generalize AgStr.clipT now = nw at *
  have HNW := Lib.hid (fun w1 => pnew_calls up nw w1)
  simp only [Option.getD_none, Option.isSome_none] at hl
  have HX := Lib.hid hx
  have HF := Lib.hid (⟨g1, hF⟩ : (∀ k, F k → k < w.heap.size) ∧ ∀ k, (k = p ∨ k = M ∨ FA k) → F k)
  have hp := hx.blk.lt
  have hM := hx.mg.lt
  have hFA : ∀ k, FA k → k < w.heap.size := fun k hk => hx.ag.lt hk
  clear hx hF h g1
  go_enter Try.func8, Try.ntmps8
  go_upto_region 5 with (go_at_call 28; refine (HTI.out _).mono ?_; rintro e w2 ⟨rfl, hs2⟩)
  have hal : Step (fun _ => False) w (w.alloc (.cells #[.bool false, .int .i64 0, .int .i64 0, .int .i64 0, .bool false] 77)) := (Step.refl _ _).alloc _
  have hst2 : Step (fun _ => False) w w2 := hal.same hs2
  have hx2 := HX.out.keep hst2 (fun _ _ h => h)
  have d4 := hx2.blk.cell (i := 4) rfl
  have hdr := (Step.refl (fun _ => False) w2).drew
  have HCC := Lib.hid (fun w3 (hs3 : Step (fun _ => False) w2 w3) => (hx2.blk.keep hs3 (fun h => h)).cell (i := 4) rfl)
  have HPUT := Lib.hid (fun w3 (hs3 : Step (fun _ => False) w2 w3) => (hx2.mg.keep hs3 (fun h => h)).put msk Try.underlying69 (by omega) (encH ⟨⟨up, 0, 0, nw⟩, false⟩) (slit_ok s) (mskey hs))
  clear hx2 c4 hl
  unfold encH at HPUT
  go_region_with (go_at_call 29; refine (HNW.out _).mono ?_; rintro e w3 ⟨rfl, hs3⟩; have hs23 : Step (fun _ => False) w2 w3 := (by first | exact hdr.same hs3 | exact hs3); have d5 := HCC.out _ hs23; obtain ⟨w4, hup, hM4, hs4⟩ := HPUT.out _ hs23)
  all_goals
    have hst3 : Step (fun _ => False) w w3 := hst2.same hs23
    have hx4 := (HX.out.keep hst3 (fun _ _ h => h)).put (y := ⟨⟨up, 0, 0, nw⟩, false⟩) hs4 hM4 (by unfold PbOk; simp)
    have hst4 : Step F w w4 := (hst3.mono (fun _ _ h => h.elim)).same (hs4.mono (fun k _ e => (show k = M from e) ▸ HF.out.2 M (.inr (.inl rfl))))
    have hsz4 := hst4.size
    have hI4 : HeR w4 p F c (setQ q s (some ⟨⟨up, 0, 0, nw⟩, false⟩)) L t (u + 1) ep :=
      ⟨fun k hk => by have := HF.out.1 k hk; omega, a, M, FA, _, _, _, hx4, by omega, HF.out.2⟩
    have d0 := hx4.blk.cell (i := 0) rfl
    have HSE := Lib.hid (set_calls hI4 (by omega) hs hcl hcok.1)
    have hce := hcok.1
    clear hM4 hx4 hI4 d4 d5 hup hs4 hcok
    go_upto_region 7 with (go_at_call 30; refine HSE.out.mono ?_; rintro e w6 ⟨rfl, F6, hI6, hs6, hn6⟩)
    have hst6 : Step F w w6 := hst4.same hs6
    have hn6w : ∀ k, F6 k → F k ∨ w.heap.size ≤ k := fun k hk => (hn6 k hk).imp id (fun h => by omega)
    clear HSE d0 hn6
    obtain ⟨e1, a2, M2, FA2, n2, m2, f2, hx6, hnu2, hF6⟩ := hI6
    have d6 := hx6.blk.cell (i := 6) rfl
    have g6 := hx6.blk.free 6
    have HX6 := Lib.hid hx6
    clear hx6
    go_upto_region 8 with (fail)
    refine put_plain HX6.out.blk ?_
    intro w7 hB7 hs7
    have hx7 := HX6.out.eph hs7 hB7
    have hsz7 := hs7.size
    have hI7 : HeR w7 p F6 c (setQ q s (some ⟨⟨up, 0, 0, nw⟩, false⟩)) _ _ (u + 2) (ep + 1) := ⟨fun k hk => by have := e1 k hk; omega, a2, M2, FA2, n2, m2, f2, hx7, by omega, hF6⟩
    have hst7 : Step F w w7 := hst6.same (hs7.mono (fun k _ e => by
      have : k = p := e
      rw [this]
      exact HF.out.2 p (.inl rfl)))
    have HI7 := Lib.hid hI7
    clear d6 g6 hx7 hB7 hI7
    go_wp2
    go_ret
    exact ⟨F6, rfl, HI7.out, hst7, hn6w⟩
end Go.Proofs.Ytghiklaeenhljaa.Hea

/- health: New. Own work of this seat. -/
namespace Go.Proofs.Ytghiklaeenhljaa.Hea
open Go.RowKit Go.Proofs.Ytghiklaeenhljaa.Kit Go.Proofs.Ytghiklaeenhljaa.PStewardRamps Go.Proofs.YtghiklaeenhljaaW.PrintWords Go.Proofs.Ytghiklaeenhljaa.AgP Go.Proofs.Ytghiklaeenhljaa
set_option linter.unusedVariables false
set_option linter.unusedSimpArgs false

set_option maxRecDepth 100000 in
set_option maxHeartbeats 4000000 in
theorem new_calls {c : Cf} (hc : CfOk c) (w : World) :
    Calls Try.prog 7 #[.agg #[.int .i64 c.every, .int .i64 c.wait, .int .i64 c.rise, .int .i64 c.fall]] w fun e w' => ∃ p F, e = .returned (.pointer (some ⟨p, 0, none⟩)) ∧ HeR w' p F c (fun _ => none) [] 0 0 0 ∧ Step (fun _ => False) w w' ∧ ∀ k, F k → w.heap.size ≤ k := by
  have HCL := Lib.hid (fun w1 => clip_ok hc w1)
  have HNW := Lib.hid (fun w1 => AgStr.new_calls w1)
  have hmm := @run_makeMap Try.prog
  go_enter Try.func7, Try.ntmps7
  go_upto_region 1 with (fail)
  refine alloc_next (cs := [.int .i64 c.every, .int .i64 c.wait, .int .i64 c.rise, .int .i64 c.fall]) ?_
  intro w1 hO hs1
  have o0 := hO.cell (i := 0) rfl
  have o1 := hO.cell (i := 1) rfl
  have o2 := hO.cell (i := 2) rfl
  have o3 := hO.cell (i := 3) rfl
  go_wp2_with (first | (go_at_call 26; refine (HCL.out _).mono ?_; rintro e w2 ⟨rfl, hs2⟩) | (go_at_call 27; refine (HNW.out _).mono ?_; rintro e w3 ⟨a, FA, rfl, hA, hs3, hn3⟩))
  go_ret
  have hz : ∀ (W : World) (o : Obj), (W.alloc o).heap.size = W.heap.size + 1 := fun W o => by show (W.heap.push _).size = _; simp
  have hB := blk_new w3 [.int .i64 c.every, .int .i64 c.wait, .int .i64 c.rise, .int .i64 c.fall, .map (some w2.heap.size), .pointer (some ⟨a, 0, none⟩), .int .i64 0] 73
  have hal : Step (fun _ => False) w3 (w3.alloc (.cells #[.int .i64 c.every, .int .i64 c.wait, .int .i64 c.rise, .int .i64 c.fall, .map (some w2.heap.size), .pointer (some ⟨a, 0, none⟩), .int .i64 0] 73)) := (Step.refl _ _).alloc _
  have hM := ((mg_new Try.prog 9 w2).keep hs3 (fun h => h)).keep hal (fun h => h)
  have hA' := hA.keep hal (fun _ _ h => h)
  have hz1 := hs1.size
  have hz2 := hs2.size
  have hz3 := hs3.size
  rw [hz] at hz3
  have hz4 := hz w3 (.cells #[.int .i64 c.every, .int .i64 c.wait, .int .i64 c.rise, .int .i64 c.fall, .map (some w2.heap.size), .pointer (some ⟨a, 0, none⟩), .int .i64 0] 73)
  have hfa : ∀ k, FA k → w2.heap.size + 1 ≤ k ∧ k < w3.heap.size := fun k hk => ⟨by have := hn3 k hk; rw [hz] at this; exact this, hA.lt hk⟩
  refine ⟨_, fun k => k = w3.heap.size ∨ k = w2.heap.size ∨ FA k, rfl, ⟨fun k hk => ?_, a, w2.heap.size, FA, 0, 0, fun _ => none, ⟨hB, hA', hM, fun s => rfl, ⟨fun h => by have := hfa _ h; omega, fun h => by have := hfa _ h; omega, by omega⟩, fun s x h => (by cases h), hc⟩, ⟨Nat.le_refl _, Nat.le_refl _⟩, fun k hk => hk⟩, ((hs1.same hs2).same (((Step.refl _ _).alloc _).same hs3)).same hal, fun k hk => ?_⟩
  · rcases hk with h | h | h
    · omega
    · omega
    · have := hfa k h; omega
  · rcases hk with h | h | h
    · omega
    · omega
    · have := hfa k h; omega
end Go.Proofs.Ytghiklaeenhljaa.Hea

/- health: Add of a name that is there, Remove. Own work of this seat. -/
namespace Go.Proofs.Ytghiklaeenhljaa.Hea
open Go.RowKit Go.Proofs.Ytghiklaeenhljaa.Kit Go.Proofs.Ytghiklaeenhljaa.PStewardRamps Go.Proofs.YtghiklaeenhljaaW.PrintWords Go.Proofs.Ytghiklaeenhljaa.AgP Go.Proofs.Ytghiklaeenhljaa
set_option linter.unusedVariables false
set_option linter.unusedSimpArgs false

theorem HeX.drop {w w' : World} {p a M : Nat} {FA : Nat → Prop} {c : Cf} {q : ByteArray → Option Ho} {L : List (Ev ByteArray)} {t n m n' m' : Nat} {ep : Int} {f : Lit → Option Value} {s : ByteArray}
    (h : HeX w p a M FA c q L t n m ep f) (hs : Step (· = M) w w') (hm : MG Try.prog 9 w' M n' m' (delF f (slit s))) : HeX w' p a M FA c (setQ q s none) L t n' m' ep (delF f (slit s)) := by
  refine ⟨h.blk.keep hs h.ne.2.2, h.ag.keep hs (fun k hk e => h.ne.2.1 (e ▸ hk)), hm, fun r => ?_, h.ne, fun r x hr => ?_, h.cok⟩
  · unfold delF setQ
    by_cases e : r = s
    · rw [e, if_pos (sameKey_self (slit_ok _)), if_pos rfl]; rfl
    · have ek : slit r ≠ slit s := fun e' => e (slit_inj e')
      rw [if_neg (by rw [Go.Maps.sameKey_ne ek]; simp), if_neg e]
      exact h.fn r
  · unfold setQ at hr
    by_cases e : r = s
    · rw [if_pos e] at hr
      cases hr
    · rw [if_neg e] at hr
      exact h.ok r x hr

set_option maxRecDepth 100000 in
set_option maxHeartbeats 4000000 in
theorem add_old {w : World} {p : Nat} {F : Nat → Prop} {c : Cf} {q : ByteArray → Option Ho} {L : List (Ev ByteArray)} {t u : Nat} {ep : Int} (h : HeR w p F c q L t u ep) {s : ByteArray} (hs : s.size ≤ 1000) (up : Bool) (now : Int) {x : Ho} (hq : q s = some x) :
    Calls Try.prog 8 #[.pointer (some ⟨p, 0, none⟩), .string s, .bool up, .int .i64 now] w fun e w' => e = .returned (.bool false) ∧ Step (fun _ => False) w w' := by
  obtain ⟨g1, a, M, FA, n, m, f, hx, hnu, hF⟩ := h
  have c4 := hx.blk.cell (i := 4) rfl
  have hl := hx.look_ok hs
  rw [hq] at hl
  unfold encH at hl
  obtain ⟨⟨x0, x1, x2, x3⟩, x4⟩ := x
  simp only [Option.getD_some, Option.isSome_some] at hl
  clear hx hF
  go_enter Try.func8, Try.ntmps8
  go_wp2
  go_ret
  exact ⟨rfl, (Step.refl _ _).alloc _⟩
set_option maxRecDepth 100000 in
set_option maxHeartbeats 4000000 in
theorem remove_none {w : World} {p : Nat} {F : Nat → Prop} {c : Cf} {q : ByteArray → Option Ho} {L : List (Ev ByteArray)} {t u : Nat} {ep : Int} (h : HeR w p F c q L t u ep) {s : ByteArray} (hs : s.size ≤ 1000) (hq : q s = none) :
    Calls Try.prog 20 #[.pointer (some ⟨p, 0, none⟩), .string s] w fun e w' => e = .returned (.bool false) ∧ Step (fun _ => False) w w' := by
  obtain ⟨g1, a, M, FA, n, m, f, hx, hnu, hF⟩ := h
  have c4 := hx.blk.cell (i := 4) rfl
  have hl := hx.look_ok hs
  rw [hq] at hl
  unfold encH at hl
  simp only [Option.getD_none, Option.isSome_none] at hl
  clear hx hF
  go_enter Try.func20, Try.ntmps20
  go_wp2
  go_ret
  exact ⟨rfl, (Step.refl _ _).alloc _⟩
set_option maxRecDepth 100000 in
set_option maxHeartbeats 4000000 in
theorem remove_some {w : World} {p : Nat} {F : Nat → Prop} {c : Cf} {q : ByteArray → Option Ho} {L : List (Ev ByteArray)} {t u : Nat} {ep : Int} (h : HeR w p F c q L t u ep) (hu : u ≤ 79000) (hep : 0 ≤ ep ∧ ep ≤ 1000000000) {s : ByteArray} (hs : s.size ≤ 1000) {x : Ho} (hq : q s = some x) :
    Calls Try.prog 20 #[.pointer (some ⟨p, 0, none⟩), .string s] w fun e w' => e = .returned (.bool true) ∧ HeR w' p F c (setQ q s none) (dropL L s) t u (ep + 1) ∧ Step F w w' := by
  obtain ⟨g1, a, M, FA, n, m, f, hx, hnu, hF⟩ := h
  have c4 := hx.blk.cell (i := 4) rfl
  have hl := hx.look_ok hs
  have hks : AgStr.KOk s := hs
  rw [hq] at hl
  unfold encH at hl
  obtain ⟨⟨x0, x1, x2, x3⟩, x4⟩ := x
  simp only [Option.getD_some, Option.isSome_some] at hl
  have HX := Lib.hid hx
  have HF := Lib.hid (⟨g1, hF⟩ : (∀ k, F k → k < w.heap.size) ∧ ∀ k, (k = p ∨ k = M ∨ FA k) → F k)
  clear hx hF
  go_enter Try.func20, Try.ntmps20
  go_upto_region 4 with (fail)
  have hal : Step (fun _ => False) w (w.alloc (.cells #[.bool x0, .int .i64 x1, .int .i64 x2, .int .i64 x3, .bool x4] 77)) := (Step.refl _ _).alloc _
  have hx1 := HX.out.keep hal (fun _ _ h => h)
  have d4 := hx1.blk.cell (i := 4) rfl
  have HX1 := Lib.hid hx1
  have HAL := Lib.hid hal
  clear c4 hl hx1 hal
  generalize w.alloc (.cells #[.bool x0, .int .i64 x1, .int .i64 x2, .int .i64 x3, .bool x4] 77) = w1 at *
  go_upto_region 5 with (refine wpList_mg_drop rfl (.tmp 21) (.tmp 22) 69 rfl HX1.out.mg msk Try.underlying69 (slit_ok s) (mskey hs) rfl rfl ?_; intro w2 hM2 hs2)
  have hx2 := HX1.out.drop hs2 hM2
  have hst2 : Step F w w2 := (HAL.out.mono (fun _ _ h => h.elim)).same (hs2.mono (fun k _ e => (show k = M from e) ▸ HF.out.2 M (.inr (.inl rfl))))
  have d5 := hx2.blk.cell (i := 5) rfl
  have HDR := Lib.hid (AgStr.drop_calls hx2.ag (by omega) hks)
  have HX2 := Lib.hid hx2
  clear hx2 hM2 hs2 d4
  go_upto_region 6 with (go_at_call 40; refine HDR.out.mono ?_; rintro e w3 ⟨rfl, hA3, hs3⟩)
  have hx3 : HeX w3 p a M FA c (setQ q s none) (dropL L s) t _ _ ep (delF f (slit s)) := ⟨HX2.out.blk.keep hs3 HX2.out.ne.1, hA3, HX2.out.mg.keep hs3 HX2.out.ne.2.1, HX2.out.fn, HX2.out.ne, HX2.out.ok, HX2.out.cok⟩
  have hst3 : Step F w w3 := hst2.same (hs3.mono (fun k _ h => HF.out.2 k (.inr (.inr h))))
  have d6 := hx3.blk.cell (i := 6) rfl
  have g6 := hx3.blk.free 6
  have HX3 := Lib.hid hx3
  clear hx3 d5 hA3
  go_upto_region 7 with (fail)
  refine put_plain HX3.out.blk ?_
  intro w7 hB7 hs7
  have hx7 := HX3.out.eph hs7 hB7
  have hst7 : Step F w w7 := hst3.same (hs7.mono (fun k _ e => (show k = p from e) ▸ HF.out.2 p (.inl rfl)))
  have hsz7 := hst7.size
  have hI7 : HeR w7 p F c (setQ q s none) (dropL L s) t u (ep + 1) := ⟨fun k hk => by have := HF.out.1 k hk; omega, a, M, FA, _, _, _, hx7, by omega, HF.out.2⟩
  have HI7 := Lib.hid hI7
  clear d6 g6 hx7 hB7 hI7
  go_wp2
  go_ret
  exact ⟨rfl, HI7.out, hst7⟩
end Go.Proofs.Ytghiklaeenhljaa.Hea

/- health: the names in order. Own work of this seat. -/
namespace Go.Proofs.Ytghiklaeenhljaa.Hea
open Go.RowKit Go.Maps Go.Proofs.Ytghiklaeenhljaa.Kit Go.Proofs.Ytghiklaeenhljaa.PStewardRamps Go.Proofs.YtghiklaeenhljaaW.PrintWords Go.Proofs.Ytghiklaeenhljaa.AgP Go.Proofs.Ytghiklaeenhljaa
set_option linter.unusedVariables false
set_option linter.unusedSimpArgs false

/-- The names in order. -/
def Names (l : List ByteArray) (q : ByteArray → Option Ho) : Prop := l.Nodup ∧ (∀ s, s ∈ l ↔ (q s).isSome = true) ∧ l.Pairwise (fun a b => a.data.toList ≤ b.data.toList)
theorem ba_eta (s : ByteArray) : (⟨s.data.toList.toArray⟩ : ByteArray) = s := by cases s; rfl
theorem names_eq {l l' : List ByteArray} {q q' : ByteArray → Option Ho} (h : Names l q) (h' : Names l' q') (e : ∀ s, (q s).isSome = (q' s).isSome) : l = l' := by
  refine List.Perm.eq_of_pairwise (le := fun a b => a.data.toList ≤ b.data.toList) (fun a b _ _ h1 h2 => ?_) h.2.2 h'.2.2 ((List.perm_ext_iff_of_nodup h.1 h'.1).2 (fun s => by rw [h.2.1, h'.2.1, e]))
  have := List.le_antisymm h1 h2
  rw [← ba_eta a, ← ba_eta b, this]
theorem strKeys_ok {w : World} {b n : Nat} {R : Value → Option (DataW Value × List MemPlace)} {D : DataW Value} (h : w.ownsMap Try.prog 9 R b n D) : (strKeys D).Nodup ∧ ∀ x, x ∈ strKeys D ↔ has D (.string x) = true := by
  obtain ⟨es, hD, hp⟩ := h.tidy msk
  obtain ⟨es2, hD2, hk⟩ := h.keysOf
  subst hD
  obtain rfl : es = es2 := by injection hD2
  have hk' : ∀ p ∈ es, ∃ x, p.1 = .string x := fun p hp => by
    obtain ⟨key, hkey⟩ := hk p hp
    obtain ⟨x, _, h2, _⟩ := Maps.keyOf_str Try.underlying9 hkey
    exact ⟨x, h2⟩
  have hmem : ∀ x, x ∈ strKeys (DataW.map es) ↔ has (.map es) (.string x) = true := fun x => by
    rw [has_eq, List.any_eq_true]
    show x ∈ es.map (fun p => strOf p.1) ↔ _
    rw [List.mem_map]
    constructor
    · rintro ⟨p, hp', rfl⟩
      obtain ⟨a, ha⟩ := hk' p hp'
      exact ⟨p, hp', by rw [ha]; simp [Lit.sameKey, strOf]⟩
    · rintro ⟨p, hp', hs⟩
      obtain ⟨a, ha⟩ := hk' p hp'
      rw [ha] at hs
      exact ⟨p, hp', by rw [ha]; simpa [Lit.sameKey, strOf] using hs⟩
  refine ⟨?_, hmem⟩
  show (es.map fun p => strOf p.1).Nodup
  refine List.pairwise_map.2 (hp.imp_of_mem fun {p q} hp' hq' hne e => hne ?_)
  obtain ⟨a, ha⟩ := hk' p hp'
  obtain ⟨b, hb⟩ := hk' q hq'
  rw [ha, hb] at e ⊢
  exact congrArg _ e
theorem keys_calls (M : Nat) (w : World) : Calls Try.prog 39 #[.map (some M)] w fun e w' => e = .returned (.func (.func 55) #[] #[.pointer (some ⟨w.heap.size, 0, none⟩)]) ∧ w' = w.alloc (.cells #[.map (some M)] 69) :=
  callsIn_wide.1 (Try.maps_Keys_39 (some M) w)
theorem sorted_calls {w : World} {M n m : Nat} {f : Lit → Option Value} {q : ByteArray → Option Ho} (hm : MG Try.prog 9 w M n m f) (fn : ∀ s, f (slit s) = (q s).map encH) (hle : m ≤ 1000000) :
    Calls Try.prog 38 #[.func (.func 55) #[] #[.pointer (some ⟨w.heap.size, 0, none⟩)]] (w.alloc (.cells #[.map (some M)] 69)) fun e w' => ∃ (A : Option Addr) (cA : Nat) (l : List ByteArray), e = .returned (.slice A l.length cA) ∧ Names l q ∧ l.length ≤ 1000000 ∧
      FSeg w' 9 1 A l.length cA (l.map Value.string) ∧ (∀ k, blockOf A = some k → w.heap.size ≤ k) ∧ Below w.heap.size w w' := by
  obtain ⟨D, hD, hsz, hf⟩ := hm
  refine (callsIn_wide.1 (Try.slices_Sorted_keys_38_39 M n D anyElem w hD (by unfold maxLen; omega) (by omega))).mono ?_
  rintro e w' ⟨v, ss, rfl, hp, hrow, hnil, hb⟩
  have hsk := strKeys_ok hD
  have hlen : ss.length = m := by
    obtain ⟨es, he, _⟩ := hD.tidy msk
    rw [hp.length_eq, ← hsz, he]
    show (es.map (fun p => strOf p.1)).length = es.length
    rw [List.length_map]
  obtain ⟨ms, hms⟩ : ∃ ms, ss.mergeSort (fun x y => decide (x ≤ y)) = ms := ⟨_, rfl⟩
  have hperm : ms.Perm ss := by rw [← hms]; exact List.mergeSort_perm ss _
  have hpw : ms.Pairwise (fun x y => x ≤ y) := by
    have tr : ∀ a b c : List UInt8, leB a b = true → leB b c = true → leB a c = true := fun a b c h1 h2 => by simp only [leB, decide_eq_true_eq] at *; exact List.le_trans h1 h2
    have tot : ∀ a b : List UInt8, (leB a b || leB b a) = true := fun a b => by simp only [leB, Bool.or_eq_true, decide_eq_true_eq]; exact List.le_total a b
    have := List.pairwise_mergeSort tr tot ss
    rw [show ss.mergeSort leB = ms from hms] at this
    exact this.imp (fun h => by simpa [leB] using h)
  rw [hms] at hrow
  have hml : ms.length = ss.length := hperm.length_eq
  have hnd : ms.Nodup := hperm.nodup_iff.2 (hp.nodup_iff.2 hsk.1)
  have hmem : ∀ s : ByteArray, s ∈ ms.map (fun x => (⟨x.toArray⟩ : ByteArray)) ↔ (q s).isSome = true := fun s => by
    have e1 : (s ∈ ms.map (fun x => (⟨x.toArray⟩ : ByteArray))) ↔ s.data.toList ∈ ms := by
      rw [List.mem_map]
      constructor
      · rintro ⟨x, hx, rfl⟩
        exact hx
      · exact fun h => ⟨_, h, ba_eta s⟩
    rw [e1, hperm.mem_iff, hp.mem_iff, hsk.2]
    have := (hf (slit s) (slit_ok s)).1
    rw [fn s] at this
    rw [show (Lit.string s.data.toList) = slit s from rfl, this]
    cases q s <;> simp
  have hll : (ms.map (fun x => (⟨x.toArray⟩ : ByteArray))).length = ss.length := by rw [List.length_map, hml]
  have hmm : ms.map encStr = (ms.map (fun x => (⟨x.toArray⟩ : ByteArray))).map Value.string := by rw [List.map_map]; rfl
  have hbel : Below w.heap.size w w' := ((Below.refl _ w).alloc (Nat.le_refl _) _).trans (hb.mono (by simp))
  have hsz1 : (w.alloc (.cells #[.map (some M)] 69)).heap.size = w.heap.size + 1 := by show (w.heap.push _).size = _; simp
  have hnames : Names (ms.map (fun x => (⟨x.toArray⟩ : ByteArray))) q := ⟨List.pairwise_map.2 (hnd.imp (fun {a b} hne e => hne (by
    have : (⟨a.toArray⟩ : ByteArray).data.toList = (⟨b.toArray⟩ : ByteArray).data.toList := by rw [e]
    simpa using this))), hmem, List.pairwise_map.2 hpw⟩
  rcases hrow with ⟨h1, ⟨rfl, h2⟩ | ⟨g, cap, cur, rfl, h2, h3, h4, h5, h6, h7⟩⟩
  · have hss : ms = [] := List.eq_nil_of_length_eq_zero (by omega)
    rw [hss] at hnames
    refine ⟨none, 0, [], rfl, hnames, by simp, fseg_nil _ _ _, fun k hk => (by cases hk), hbel⟩
  · refine ⟨some ⟨g, 0, none⟩, cap, _, by rw [hll], hnames, by omega, ⟨by rw [List.length_map]; omega, .inr ⟨g, cur, rfl, h3, by omega, by omega, fun j v hj => ?_⟩⟩, fun k hk => ?_, hbel⟩
    · rw [← hmm, ← h7, List.getElem?_take] at hj
      split at hj
      · simpa using hj
      · cases hj
    · obtain rfl : g = k := Option.some.inj hk
      omega
end Go.Proofs.Ytghiklaeenhljaa.Hea

/- health: Views. Own work of this seat. -/
namespace Go.Proofs.Ytghiklaeenhljaa.Hea
open Go.RowKit Go.Proofs.Ytghiklaeenhljaa.Kit Go.Proofs.Ytghiklaeenhljaa.PStewardRamps Go.Proofs.YtghiklaeenhljaaW.PrintWords Go.Proofs.Ytghiklaeenhljaa.AgP Go.Proofs.Ytghiklaeenhljaa
set_option linter.unusedVariables false
set_option linter.unusedSimpArgs false

theorem i0view : ∃ i, Try.prog.info? 39 = some i ∧ i.zero = some (.agg #[.string ⟨#[]⟩, .bool false, .int .i64 0]) ∧ i.size = 3 ∧ i.bytes = 32 := by
  obtain ⟨i, hi, hp⟩ := Option.map_eq_some_iff.1 (by kernel_rfl : (Try.prog.info? 39).map (fun i => (i.zero, i.size, i.bytes)) = some (some (.agg #[.string ⟨#[]⟩, .bool false, .int .i64 0]), 3, 32))
  simp only [Prod.mk.injEq] at hp
  exact ⟨i, hi, hp⟩
def viewC (s : ByteArray) (x : Ho) : List Value := [.string s, .bool x.pb.up, .int .i64 x.pb.since]
theorem run_app_view {w : World} {A : Option Addr} {n c b : Nat} {l : List Value} {s : ByteArray} {x : Ho} (h : FSeg w 39 3 A n c l) (k : Blk w b 39 (viewC s x)) (hb : n + 1 ≤ 1000000) :
    ∃ A' c' w', (Builtin.append_ #[53, 53] 53 #[.slice A n c, .slice (some ⟨b, 0, none⟩) 1 1]).run Try.prog w = .ok (.slice A' (n + 1) c') w' ∧ FSeg w' 39 3 A' (n + 1) c' (l ++ viewC s x) ∧ Step (fun k => blockOf A = some k) w w' ∧ (blockOf A' = blockOf A ∨ ∃ k, blockOf A' = some k ∧ w.heap.size ≤ k) := by
  obtain ⟨i0, hi0, hz0, hs0, hy0⟩ := i0view
  exact run_append_flat (P := Try.prog) (cB := 1) w 53 53 39 i0 _ 3 32 Try.underlying53 hi0 hz0 rfl hs0 hy0 (by omega) h (m := 1) (r := viewC s x) (aB := ⟨b, 0, none⟩) rfl (fun _ => Nat.one_pos) (fun v hv => by
    simp only [viewC, List.mem_cons, List.not_mem_nil, or_false] at hv
    rcases hv with rfl | rfl | rfl <;> rfl) (fun j v hj => by rw [addr_add', Nat.zero_add]; exact k.cell hj) hb
def viewsC (q : ByteArray → Option Ho) (l : List ByteArray) : List Value := l.flatMap (upV q)
theorem viewsC_take {q : ByteArray → Option Ho} {l : List ByteArray} {i : Nat} {s : ByteArray} {x : Ho} (hi : l[i]? = some s) (hq : q s = some x) : viewsC q (l.take (i + 1)) = viewsC q (l.take i) ++ viewC s x := by
  unfold viewsC
  rw [List.take_add_one, hi]
  simp [upV, hq, viewC]

set_option maxRecDepth 100000 in
set_option maxHeartbeats 4000000 in
theorem views_calls {w : World} {p : Nat} {F : Nat → Prop} {c : Cf} {q : ByteArray → Option Ho} {L : List (Ev ByteArray)} {t u : Nat} {ep : Int} (h : HeR w p F c q L t u ep) (hu : u ≤ 80000) (hk : ∀ s, (q s).isSome = true → s.size ≤ 1000) :
    Calls Try.prog 19 #[.pointer (some ⟨p, 0, none⟩)] w fun e w' => ∃ (B : Option Addr) (cB : Nat) (l : List ByteArray), e = .returned (.slice B l.length cB) ∧ Names l q ∧ FSeg w' 39 3 B l.length cB (viewsC q l) ∧ (∀ k, blockOf B = some k → w.heap.size ≤ k) ∧ Step (fun _ => False) w w' ∧ l.length ≤ 1000000 := by
  have HH := Lib.hid h
  obtain ⟨g1, a, M, FA, n, m, f, hx, hnu, hF⟩ := h
  have c4 := hx.blk.cell (i := 4) rfl
  have hmn := hx.mg.size_le
  have HSO := Lib.hid (sorted_calls hx.mg hx.fn (by omega))
  clear hx hF
  go_enter Try.func19, Try.ntmps19
  go_upto_region 3 with (first | (go_at_call 39; refine (keys_calls M _).mono ?_; rintro e w1 ⟨rfl, rfl⟩) | (go_at_call 38; refine HSO.out.mono ?_; rintro e w2 ⟨A, cA, l, rfl, hN, hll, hS, hAf, hb2⟩))
  have hst2 : Step (fun _ => False) w w2 := Step.of_below hb2
  have HUP := Lib.hid (fun w' (hs : Step (fun _ => False) w w') (s : ByteArray) (hs1 : s.size ≤ 1000) => up_calls (HH.out.same hs) hs1)
  have HN := Lib.hid hN
  have HS := Lib.hid hS
  have HST := Lib.hid hst2
  have hA2 : ∀ k, blockOf A = some k → k < w2.heap.size := fun k hk => FSeg.lt hS hk
  have hz2 := hst2.size
  clear hN hS hst2 hb2 c4 HSO
  obtain ⟨nl, hnl⟩ : ∃ nl, l.length = nl := ⟨_, rfl⟩
  rw [hnl] at hll HS
  have HNL := Lib.hid hnl
  simp only [hnl]
  clear hnl
  go_loopw [3, 15] (fun v3 v15 wr => ∃ (i : Nat) (B : Option Addr) (cB : Nat), v15 = .int .i64 (i : Int) ∧ v3 = .slice B i cB ∧ i ≤ nl ∧ FSeg wr 39 3 B i cB (viewsC q (l.take i)) ∧ (∀ k, blockOf B = some k → w2.heap.size ≤ k) ∧ Step (fun _ => False) w wr ∧ FSeg wr 9 1 A nl cA (l.map Value.string) ∧ w2.heap.size ≤ wr.heap.size) (fun _ v _ => nl - (intOf v).toNat)
  case atStart => exact ⟨0, none, 0, rfl, rfl, Nat.zero_le _, fseg_nil _ _ _, fun k hk => (by cases hk), HST.out, HS.out, Nat.le_refl _⟩
  case round =>
    obtain ⟨i, B, cB, rfl, rfl, hi, hB, hBf, hst, hS, hzr⟩ := hrel
    by_cases hin : i < nl
    · have hin' : ((i : Int) < (nl : Int)) := by omega
      obtain ⟨gA, rfl⟩ := FSeg.isSome hS (by omega)
      obtain ⟨s, hs⟩ : ∃ s, l[i]? = some s := ⟨_, List.getElem?_eq_getElem (by rw [HNL.out]; exact hin)⟩
      have hsq : (q s).isSome = true := (HN.out.2.1 s).1 (List.mem_of_getElem? hs)
      have hsz := hk s hsq
      obtain ⟨x, hx⟩ := Option.isSome_iff_exists.1 hsq
      have hc : wr.cell? ⟨gA, i, none⟩ = some (.string s) := FSeg.cell hS (by rw [List.getElem?_map, hs]; rfl)
      have HU := Lib.hid (HUP.out wr hst s hsz)
      rw [show upV q s = viewC s x from by unfold upV viewC; rw [hx], hsq] at HU
      have HTK := Lib.hid (viewsC_take hs hx)
      clear hs hsq hx
      obtain ⟨⟨x0, x1, x2, x3⟩, x4⟩ := x
      simp only [viewC] at HU
      have HSS := Lib.hid hS
      have HB := Lib.hid hB
      clear hS hB
      go_upto_region 6 with (go_at_call 13; refine HU.out.mono ?_; rintro e w3 ⟨rfl, hs3⟩)
      refine alloc_next (cs := [.string s, .bool x0, .int .i64 x3]) ?_
      intro w4 hV hs4
      have v0 := hV.cell (i := 0) rfl
      have v1 := hV.cell (i := 1) rfl
      have v2 := hV.cell (i := 2) rfl
      have hs34 := hs3.same hs4
      have hal : Step (fun _ => False) w4 (w4.alloc (.cells #[.string s, .bool x0, .int .i64 x3] 39)) := (Step.refl _ _).alloc _
      have hb5 := blk_new w4 (viewC s ⟨⟨x0, x1, x2, x3⟩, x4⟩) 39
      obtain ⟨B5, c5, w5, hap, hB6, hs5, hn5⟩ := run_app_view ((HB.out.keep hs34 (fun _ _ h => h)).keep hal (fun _ _ h => h)) hb5 (by omega)
      have hz3 := hs3.size
      have hz4 := hs4.size
      have hz5 := hs5.size
      have hz6 := hal.size
      have hst4 : Step (fun _ => False) w (w4.alloc (.cells #[.string s, .bool x0, .int .i64 x3] 39)) := (hst.same hs34).same hal
      have hst5 : Step (fun _ => False) w w5 := hst4.trans hs5 (fun j hj h => by have := hBf j h; omega)
      have hS5 := ((HSS.out.keep hs34 (fun _ _ h => h)).keep hal (fun _ _ h => h)).keep hs5 (fun j hj h => by have h1 := hBf j h; have h2 := hA2 j hj; omega)
      rw [← HTK.out] at hB6
      have hB5f : ∀ k, blockOf B5 = some k → w2.heap.size ≤ k := fun k hk => by
        rcases hn5 with e | ⟨j, e, hj⟩
        · exact hBf k (e ▸ hk)
        · rw [hk] at e
          obtain rfl := Option.some.inj e
          omega
      have HB6 := Lib.hid hB6
      have HS5 := Lib.hid hS5
      have HST5 := Lib.hid hst5
      clear hB6 hS5 hst5 hst4 hs5 hn5 hb5 hal hs34 HB HSS HTK HU
      go_wp2_with (at_builtin; refine wpList_app (by rfl) (.tmp 25) (.tmp 27) 53 (by rfl) (by rfl) (by rfl) hap ?_)
      go_roundw
      case rel => exact ⟨i + 1, B5, c5, by first | rfl | simp, rfl, by omega, HB6.out, hB5f, HST5.out, HS5.out, by omega⟩
      case measure =>
        simp only [intOf]
        omega
    · have hin' : ¬ ((i : Int) < (nl : Int)) := by omega
      have hil : i = nl := by omega
      subst hil
      go_wp2
      go_ret
      refine ⟨B, cB, l, by rw [HNL.out]; rfl, HN.out, ?_, fun k hk => by have := hBf k hk; omega, hst, by rw [HNL.out]; omega⟩
      rw [HNL.out]
      rw [List.take_of_length_le (by rw [HNL.out]; exact Nat.le_refl _)] at hB
      exact hB
end Go.Proofs.Ytghiklaeenhljaa.Hea

/- health: the acts of HealthEpochs, in plain Lean. Own work of this seat. -/
namespace Go.Proofs.Ytghiklaeenhljaa.Hea
open Go.RowKit Go.Proofs.Ytghiklaeenhljaa.Kit Go.Proofs.Ytghiklaeenhljaa.AgP Go.Proofs.Ytghiklaeenhljaa
set_option linter.unusedVariables false
set_option linter.unusedSimpArgs false

def clrK (k : ByteArray → Int) (s : ByteArray) : ByteArray → Int := fun y => if y = s then 0 else k y
theorem aj_put {c : Cf} {q : ByteArray → Option Ho} {L : List (Ev ByteArray)} {t : Nat} {ep : Int} {ev : List Evn} {k : ByteArray → Int} (h : AJ c ⟨q, L, t, ep, ev⟩ k) (s : ByteArray) (pb : Pb) {v : Int} (hv : 0 ≤ v) (t' : Nat) (ep' : Int) (ev' : List Evn) :
    AJ c ⟨setQ q s (some ⟨pb, false⟩), (timL L t s v).1, t', ep', ev'⟩ (clrK k s) := by
  obtain ⟨h1, h2, h3, h4, h5⟩ := h
  simp only at h1 h2 h3 h4 h5
  refine ⟨fun y hy => ?_, timL_nd h2, fun y => ?_, fun y hy => ?_, fun y hy => ?_⟩
  · show (setQ q s _ y.key).isSome = true
    unfold setQ
    rcases timL_mem hy with ⟨e1, _⟩ | ⟨e1, e2⟩
    · simp [e1]
    · simp only [if_neg e2]
      exact h1 y e1
  · show clrK k s y ≠ 0 ↔ ∃ x, setQ q s _ y = some x ∧ _
    unfold setQ clrK
    by_cases e : y = s
    · simp [e]
    · simp only [if_neg e]
      exact h3 y
  · unfold clrK
    rcases timL_mem hy with ⟨e1, _⟩ | ⟨e1, e2⟩
    · simp [e1]
    · simp only [if_neg e2]
      exact h4 y e1
  · rcases timL_mem hy with ⟨e1, e2⟩ | ⟨e1, e2⟩
    · rw [e2]; exact hv
    · exact h5 y e1
theorem aj_del {c : Cf} {q : ByteArray → Option Ho} {L : List (Ev ByteArray)} {t : Nat} {ep : Int} {ev : List Evn} {k : ByteArray → Int} (h : AJ c ⟨q, L, t, ep, ev⟩ k) (s : ByteArray) (t' : Nat) (ep' : Int) (ev' : List Evn) :
    AJ c ⟨setQ q s none, dropL L s, t', ep', ev'⟩ (clrK k s) := by
  obtain ⟨h1, h2, h3, h4, h5⟩ := h
  simp only at h1 h2 h3 h4 h5
  refine ⟨fun y hy => ?_, (List.Sublist.map _ (List.filter_sublist)).nodup h2, fun y => ?_, fun y hy => ?_, fun y hy => h5 y (mem_drop.1 hy).1⟩
  · show (setQ q s _ y.key).isSome = true
    unfold setQ
    simp only [if_neg (mem_drop.1 hy).2]
    exact h1 y (mem_drop.1 hy).1
  · show clrK k s y ≠ 0 ↔ ∃ x, setQ q s _ y = some x ∧ _
    unfold setQ clrK
    by_cases e : y = s
    · simp [e]
    · simp only [if_neg e]
      exact h3 y
  · unfold clrK
    simp only [if_neg (mem_drop.1 hy).2]
    exact h4 y (mem_drop.1 hy).1
theorem aj_same {c : Cf} {q : ByteArray → Option Ho} {L : List (Ev ByteArray)} {t : Nat} {ep : Int} {ev : List Evn} {k k' : ByteArray → Int} (h : AJ c ⟨q, L, t, ep, ev⟩ k) (e : ∀ s, k' s = k s) (t' : Nat) (ep' : Int) (ev' : List Evn) : AJ c ⟨q, L, t', ep', ev'⟩ k' := by
  obtain rfl : k' = k := funext e
  exact ⟨h.mem, h.nd, h.asked, h.tm, h.tm0⟩
/-- A result that turns nothing is not seen. -/
theorem samev_res {q : ByteArray → Option Ho} {s : ByteArray} {x : Ho} (hx : q s = some x) {c : Cf} {g : Bool} {now : Int} (h : (resE (resP x.pb c g now) s now).length = 0) : SameV q (setQ q s (some ⟨(resP x.pb c g now).1, false⟩)) := by
  refine samev_set hx (resP_same ?_)
  rcases resE_kind (r := resP x.pb c g now) (s := s) (at_ := now) with ⟨_, e2⟩ | ⟨e1, e2, _, _⟩
  · exact e2
  · rw [e2] at h
    simp at h
theorem views_same {q q' : ByteArray → Option Ho} {l l' : List ByteArray} (h : Names l q) (h' : Names l' q') (hs : SameV q q') : viewsC q l = viewsC q' l' := by
  obtain rfl := names_eq h h' (fun s => (hs.up s).2)
  unfold viewsC
  rw [show upV q = upV q' from funext fun s => (hs.up s).1]
end Go.Proofs.Ytghiklaeenhljaa.Hea

/- health: equal rows of views. Own work of this seat. -/
namespace Go.Proofs.Ytghiklaeenhljaa.Hea
open Go.RowKit Go.Proofs.Ytghiklaeenhljaa.Kit Go.Proofs.Ytghiklaeenhljaa.PStewardRamps Go.Proofs.YtghiklaeenhljaaW.PrintWords Go.Proofs.Ytghiklaeenhljaa.AgP Go.Proofs.Ytghiklaeenhljaa
set_option linter.unusedVariables false
set_option linter.unusedSimpArgs false

theorem eq_str (d : Nat) (s : ByteArray) (w : World) : (Op.equalIn (d + 1) 9 (.string s) (.string s)).run Try.prog w = .ok true w := by
  simp [Op.equalIn, run_underlying Try.underlying9, beq_toListBytes]
theorem eq_int (d : Nat) (x : Int) (w : World) : (Op.equalIn (d + 1) 3 (.int .i64 x) (.int .i64 x)).run Try.prog w = .ok true w := by
  simp [Op.equalIn, run_underlying Try.underlying3]
theorem eq_bool (d : Nat) (x : Bool) (w : World) : (Op.equalIn (d + 1) 4 (.bool x) (.bool x)).run Try.prog w = .ok true w := by
  simp [Op.equalIn, run_underlying Try.underlying4]
set_option maxRecDepth 100000 in
theorem neqV (x0 : ByteArray) (x1 : Bool) (x2 : Int) (w : World) : (binOp .neq 39 (.agg #[.string x0, .bool x1, .int .i64 x2]) (.agg #[.string x0, .bool x1, .int .i64 x2])).run Try.prog w = .ok (.bool false) w := by
  have h : (Op.equalIn 10000 39 (.agg #[.string x0, .bool x1, .int .i64 x2]) (.agg #[.string x0, .bool x1, .int .i64 x2])).run Try.prog w = .ok true w :=
    eqA_of (d := 9999) Try.underlying39 (by kernel_rfl) (eqf_cons (r := true) (s := true) rfl rfl rfl (eq_str 9998 _ _) (eqf_cons (r := true) (s := true) rfl rfl rfl (eq_bool 9998 _ _) (eqf_last (r := true) rfl rfl rfl (eq_int 9998 _ _))))
  simp only [binOp]
  simp [Op.equal, Op.maxDepth, h]
set_option maxRecDepth 100000 in
set_option maxHeartbeats 2000000 in
theorem views_is {w : World} {A B : Option Addr} {n cA cB : Nat} {cs : List Value} (hA : FSeg w 39 3 A n cA cs) (hB : FSeg w 39 3 B n cB cs) (hv : ∀ i, i < n → ∃ s u si, cs[i * 3]? = some (.string s) ∧ cs[i * 3 + 1]? = some (.bool u) ∧ cs[i * 3 + 2]? = some (.int .i64 si)) (hn : n ≤ 1000000) :
    Calls Try.prog 21 #[.slice A n cA, .slice B n cB] w fun e w' => e = .returned (.bool true) ∧ Step (fun _ => False) w w' := by
  have HA := Lib.hid hA
  have HB := Lib.hid hB
  clear hA hB
  go_enter Try.func21, Try.ntmps21
  go_wp2
  go_loopw [13] (fun v13 wr => ∃ (i : Nat), v13 = .int .i64 (i : Int) ∧ i ≤ n ∧ Step (fun _ => False) w wr) (fun v _ => n - (intOf v).toNat)
  case atStart => exact ⟨0, rfl, Nat.zero_le _, Step.refl _ _⟩
  case round =>
    obtain ⟨i, rfl, hi, hst⟩ := hrel
    by_cases hin : i < n
    · have hin' : ((i : Int) < (n : Int)) := by omega
      obtain ⟨gA, rfl⟩ := FSeg.isSome HA.out (by omega)
      obtain ⟨gB, rfl⟩ := FSeg.isSome HB.out (by omega)
      obtain ⟨s, u, si, e0, e1, e2⟩ := hv i hin
      have hA := HA.out.keep hst (fun _ _ h => h)
      have hB := HB.out.keep hst (fun _ _ h => h)
      have a0 := hA.cell e0
      have a1 := hA.cell e1
      have a2 := hA.cell e2
      have b0 := hB.cell e0
      have b1 := hB.cell e1
      have b2 := hB.cell e2
      have hne := neqV s u si
      clear hA hB e0 e1 e2 hv HA HB
      go_upto_region 6 with (fail)
      go_region
      all_goals
        go_wp2
        go_roundw
        case rel => exact ⟨i + 1, by first | rfl | simp, by omega, by first | exact hst.drew | exact hst.same ((Step.refl _ _).drew)⟩
        case measure =>
          simp only [intOf]
          omega
    · have hin' : ¬ ((i : Int) < (n : Int)) := by omega
      go_wp2
      go_ret
      exact ⟨rfl, hst⟩
end Go.Proofs.Ytghiklaeenhljaa.Hea

/- health: New at any Config. Own work of this seat. -/
namespace Go.Proofs.Ytghiklaeenhljaa.Hea
open Go.RowKit Go.Proofs.Ytghiklaeenhljaa.Kit Go.Proofs.Ytghiklaeenhljaa.PStewardRamps Go.Proofs.YtghiklaeenhljaaW.PrintWords Go.Proofs.Ytghiklaeenhljaa.AgP Go.Proofs.Ytghiklaeenhljaa
set_option linter.unusedVariables false
set_option linter.unusedSimpArgs false

def clipC (c : Cf) : Cf := ⟨mx 1 (mn c.every 1048576), mx 1 (mn c.wait 1048576), mx 1 (mn c.rise 1000), mx 1 (mn c.fall 1000)⟩
theorem clip1_in (x m : Int) (hm : 1 ≤ m) : 1 ≤ mx 1 (mn x m) ∧ mx 1 (mn x m) ≤ m := by
  unfold mx mn
  split <;> split <;> omega
theorem clipC_ok (c : Cf) : CfOk (clipC c) := ⟨clip1_in _ _ (by omega), clip1_in _ _ (by omega), clip1_in _ _ (by omega), clip1_in _ _ (by omega)⟩
theorem clip_any (c : Cf) (w : World) : Calls Try.prog 26 #[.agg #[.int .i64 c.every, .int .i64 c.wait, .int .i64 c.rise, .int .i64 c.fall]] w fun e w' => e = .returned (.agg #[.int .i64 (clipC c).every, .int .i64 (clipC c).wait, .int .i64 (clipC c).rise, .int .i64 (clipC c).fall]) ∧ Step (fun _ => False) w w' :=
  (probe_Config_Clip.calls _ _ _ _ _ _ _ _ w rfl).mono fun e w' h => ⟨h.1, step_bel h.2⟩
set_option maxRecDepth 100000 in
set_option maxHeartbeats 4000000 in
theorem new_any (d : Cf) (w : World) :
    Calls Try.prog 7 #[.agg #[.int .i64 d.every, .int .i64 d.wait, .int .i64 d.rise, .int .i64 d.fall]] w fun e w' => ∃ p F, e = .returned (.pointer (some ⟨p, 0, none⟩)) ∧ HeR w' p F (clipC d) (fun _ => none) [] 0 0 0 ∧ Step (fun _ => False) w w' ∧ ∀ k, F k → w.heap.size ≤ k := by
  have HCL := Lib.hid (fun w1 => clip_any d w1)
  have hc := clipC_ok d
  generalize clipC d = c at *
  have HNW := Lib.hid (fun w1 => AgStr.new_calls w1)
  have hmm := @run_makeMap Try.prog
  go_enter Try.func7, Try.ntmps7
  go_upto_region 1 with (fail)
  refine alloc_next (cs := [.int .i64 d.every, .int .i64 d.wait, .int .i64 d.rise, .int .i64 d.fall]) ?_
  intro w1 hO hs1
  have o0 := hO.cell (i := 0) rfl
  have o1 := hO.cell (i := 1) rfl
  have o2 := hO.cell (i := 2) rfl
  have o3 := hO.cell (i := 3) rfl
  go_wp2_with (first | (go_at_call 26; refine (HCL.out _).mono ?_; rintro e w2 ⟨rfl, hs2⟩) | (go_at_call 27; refine (HNW.out _).mono ?_; rintro e w3 ⟨a, FA, rfl, hA, hs3, hn3⟩))
  go_ret
  have hz : ∀ (W : World) (o : Obj), (W.alloc o).heap.size = W.heap.size + 1 := fun W o => by show (W.heap.push _).size = _; simp
  have hB := blk_new w3 [.int .i64 c.every, .int .i64 c.wait, .int .i64 c.rise, .int .i64 c.fall, .map (some w2.heap.size), .pointer (some ⟨a, 0, none⟩), .int .i64 0] 73
  have hal : Step (fun _ => False) w3 (w3.alloc (.cells #[.int .i64 c.every, .int .i64 c.wait, .int .i64 c.rise, .int .i64 c.fall, .map (some w2.heap.size), .pointer (some ⟨a, 0, none⟩), .int .i64 0] 73)) := (Step.refl _ _).alloc _
  have hM := ((mg_new Try.prog 9 w2).keep hs3 (fun h => h)).keep hal (fun h => h)
  have hA' := hA.keep hal (fun _ _ h => h)
  have hz1 := hs1.size
  have hz2 := hs2.size
  have hz3 := hs3.size
  rw [hz] at hz3
  have hz4 := hz w3 (.cells #[.int .i64 c.every, .int .i64 c.wait, .int .i64 c.rise, .int .i64 c.fall, .map (some w2.heap.size), .pointer (some ⟨a, 0, none⟩), .int .i64 0] 73)
  have hfa : ∀ k, FA k → w2.heap.size + 1 ≤ k ∧ k < w3.heap.size := fun k hk => ⟨by have := hn3 k hk; rw [hz] at this; exact this, hA.lt hk⟩
  refine ⟨_, fun k => k = w3.heap.size ∨ k = w2.heap.size ∨ FA k, rfl, ⟨fun k hk => ?_, a, w2.heap.size, FA, 0, 0, fun _ => none, ⟨hB, hA', hM, fun s => rfl, ⟨fun h => by have := hfa _ h; omega, fun h => by have := hfa _ h; omega, by omega⟩, fun s x h => (by cases h), hc⟩, ⟨Nat.le_refl _, Nat.le_refl _⟩, fun k hk => hk⟩, ((hs1.same hs2).same (((Step.refl _ _).alloc _).same hs3)).same hal, fun k hk => ?_⟩
  · rcases hk with h | h | h
    · omega
    · omega
    · have := hfa k h; omega
  · rcases hk with h | h | h
    · omega
    · omega
    · have := hfa k h; omega
end Go.Proofs.Ytghiklaeenhljaa.Hea

/- health with one name: the calls of StewardRamps. Own work of this seat. -/
namespace Go.Proofs.Ytghiklaeenhljaa.Hea
open Go.RowKit Go.Proofs.Ytghiklaeenhljaa.Kit Go.Proofs.Ytghiklaeenhljaa.PStewardRamps Go.Proofs.YtghiklaeenhljaaW.PrintWords Go.Proofs.Ytghiklaeenhljaa.AgP Go.Proofs.Ytghiklaeenhljaa
set_option linter.unusedVariables false
set_option linter.unusedSimpArgs false

def cc : Cf := ⟨3, 2, 1, 1⟩
theorem cc_ok : CfOk cc := by unfold CfOk cc; simp only; omega
def kA : ByteArray := ⟨#[97]⟩
theorem kA_sz : kA.size ≤ 1000 := by decide
theorem insL_nil (e : Ev ByteArray) : insL [] e = [e] := rfl
theorem dropL_self (k : ByteArray) (a b : Int) : dropL [⟨k, a, b⟩] k = [] := by simp [dropL]
theorem timL_nil {t : Nat} {v : Int} (hv : v ≤ 1099511627776) : timL [] t kA v = ([⟨kA, v, ((t + 1 : Nat) : Int)⟩], t + 1) := by
  unfold timL
  rw [if_pos hv]
  rfl
theorem timL_one {t : Nat} {a b v : Int} (hv : v ≤ 1099511627776) : timL [⟨kA, a, b⟩] t kA v = ([⟨kA, v, ((t + 1 : Nat) : Int)⟩], t + 1) := by
  unfold timL
  rw [if_pos hv]
  unfold setL
  rw [dropL_self]
  rfl
theorem load_one (tm b : Int) : load tm [⟨kA, tm, b⟩] = 1 := by
  unfold load
  simp only [List.map_cons, List.map_nil, List.sum_cons, List.sum_nil]
  omega
theorem setQ_self (q : ByteArray → Option Ho) (s : ByteArray) (v : Option Ho) : setQ q s v s = v := if_pos rfl
theorem runs_one {q : ByteArray → Option Ho} {tm sq ep : Int} {t : Nat} {R : Hs} {y : Pb} (hq : q kA = some ⟨y, false⟩) (ht : 0 ≤ tm ∧ tm ≤ 1000) (h : Runs cc tm ⟨q, [⟨kA, tm, sq⟩], t, ep, []⟩ R) : R = ⟨setQ q kA (some ⟨y, true⟩), [⟨kA, tm + 2, ((t + 1 : Nat) : Int)⟩], t + 1, ep, [⟨1, kA, tm⟩]⟩ := by
  have e1 : stepH cc ⟨q, [⟨kA, tm, sq⟩], t, ep, []⟩ ⟨kA, tm, sq⟩ [] = ⟨setQ q kA (some ⟨y, true⟩), [⟨kA, tm + 2, ((t + 1 : Nat) : Int)⟩], t + 1, ep, [⟨1, kA, tm⟩]⟩ := by
    unfold stepH
    simp only [hq, Option.getD_some]
    unfold turQ turV turE turN
    simp only [Bool.false_eq_true, if_false]
    rw [show tm + cc.wait = tm + 2 from rfl, timL_nil (by omega)]
    rfl
  cases h with
  | stop _ h => exact absurd (h ⟨kA, tm, sq⟩ rfl) (Int.lt_irrefl _)
  | step _ _ s r e hlt k =>
    have e' : [(⟨kA, tm, sq⟩ : Ev ByteArray)] = s :: r := e
    injection e' with e2 e3
    subst e2 e3
    rw [e1] at k
    cases k with
    | stop _ h => rfl
    | step _ _ s2 r2 e2 h2 k2 =>
      have e4 : [(⟨kA, tm + 2, ((t + 1 : Nat) : Int)⟩ : Ev ByteArray)] = s2 :: r2 := e2
      injection e4 with e5 e6
      subst e5
      exact absurd (show tm < tm + 2 by omega) h2

theorem new3 (w : World) : Calls Try.prog 7 #[.agg #[.int .i64 3, .int .i64 2, .int .i64 1, .int .i64 1]] w fun e w' => ∃ p F, e = .returned (.pointer (some ⟨p, 0, none⟩)) ∧ HeR w' p F cc (fun _ => none) [] 0 0 0 ∧ Step (fun _ => False) w w' ∧ ∀ k, F k → w.heap.size ≤ k := new_calls cc_ok w
theorem add3 {w : World} {p : Nat} {F : Nat → Prop} (h : HeR w p F cc (fun _ => none) [] 0 0 0) : Calls Try.prog 8 #[.pointer (some ⟨p, 0, none⟩), .string kA, .bool false, .int .i64 0] w fun e w' => ∃ F' q, e = .returned (.bool true) ∧ q kA = some ⟨⟨false, 0, 0, 0⟩, false⟩ ∧
    HeR w' p F' cc q [⟨kA, 3, ((1 : Nat) : Int)⟩] 1 2 1 ∧ Step F w w' ∧ ∀ k, F' k → F k ∨ w.heap.size ≤ k := by
  refine (add_new h (by omega) (by omega) kA_sz false 0 rfl).mono ?_
  rintro e w' ⟨F', rfl, h1, h2, h3⟩
  rw [show AgStr.clipT 0 = 0 from rfl, show (0 : Int) + cc.every = 3 from rfl, timL_nil (by omega)] at h1
  exact ⟨F', _, rfl, setQ_self _ _ _, h1, h2, h3⟩
theorem first3 {w : World} {p : Nat} {F : Nat → Prop} {q : ByteArray → Option Ho} {tm sq ep : Int} {t u : Nat} (h : HeR w p F cc q [⟨kA, tm, sq⟩] t u ep) (hu : u ≤ 80000) : Calls Try.prog 9 #[.pointer (some ⟨p, 0, none⟩)] w fun e w' => e = .returned (.tuple #[.int .i64 tm, .bool true]) ∧ w = w' := first_calls h hu
theorem run3 {w : World} {p : Nat} {F : Nat → Prop} {q : ByteArray → Option Ho} {tm sq ep : Int} {t u : Nat} {y : Pb} (h : HeR w p F cc q [⟨kA, tm, sq⟩] t u ep) (hu : u ≤ 1000) (hep : 0 ≤ ep ∧ ep ≤ 1000) (ht : 0 ≤ tm ∧ tm ≤ 1000) (hq : q kA = some ⟨y, false⟩) : Calls Try.prog 10 #[.pointer (some ⟨p, 0, none⟩), .int .i64 tm] w fun e w' => ∃ F' A cA q' sq' t' u', e = .returned (.slice A 1 cA) ∧ ESeg w' A 1 cA [⟨1, kA, tm⟩] ∧ q' kA = some ⟨y, true⟩ ∧
    HeR w' p F' cc q' [⟨kA, tm + 2, sq'⟩] t' u' ep ∧ u' ≤ u + 2 ∧ Step F w w' ∧ ∀ k, F' k → F k ∨ w.heap.size ≤ k := by
  have hl := load_one tm sq
  refine (run_calls h tm (by omega) (by omega) (fun s hs => by
    obtain rfl : s = ⟨kA, tm, sq⟩ := by simpa using hs
    show 0 ≤ tm ∧ tm ≤ _
    omega)).mono ?_
  rintro e w' ⟨R, F', A, cA, u', hR, rfl, hA, hAf, hI, hu', hep', htm, hs, hn⟩
  obtain rfl := runs_one hq ht hR
  rw [hl] at hu'
  exact ⟨F', A, cA, _, _, _, u', rfl, hA, setQ_self _ _ _, hI, by omega, hs, hn⟩
theorem waits3 {w : World} {p : Nat} {F : Nat → Prop} {q : ByteArray → Option Ho} {L : List (Ev ByteArray)} {ep : Int} {t u : Nat} {y : Pb} {b : Bool} (h : HeR w p F cc q L t u ep) (hq : q kA = some ⟨y, b⟩) : Calls Try.prog 11 #[.pointer (some ⟨p, 0, none⟩), .string kA] w fun e w' => e = .returned (.bool b) ∧ w = w' := by
  have := waits_calls h kA_sz
  rw [hq] at this
  exact this
theorem resP_one (g up : Bool) (si tm : Int) : resP ⟨up, 0, 0, si⟩ cc g tm = (⟨g, 0, 0, if g = up then si else tm⟩, g != up) := by
  cases g <;> cases up <;> rfl
theorem res3 {w : World} {p : Nat} {F : Nat → Prop} {q : ByteArray → Option Ho} {a b tm si ep : Int} {t u : Nat} {up : Bool} (h : HeR w p F cc q [⟨kA, a, b⟩] t u ep) (hu : u ≤ 1000) (hep : 0 ≤ ep ∧ ep ≤ 1000) (ht : 0 ≤ tm ∧ tm ≤ 1000) (hq : q kA = some ⟨⟨up, 0, 0, si⟩, true⟩) (g : Bool) : Calls Try.prog 12 #[.pointer (some ⟨p, 0, none⟩), .string kA, .bool g, .int .i64 tm] w fun e w' => ∃ F' A cA q' t' ep', e = .returned (.tuple #[.slice A (if g = up then 0 else 1) cA, .int .i64 0]) ∧ q' kA = some ⟨⟨g, 0, 0, if g = up then si else tm⟩, false⟩ ∧
    HeR w' p F' cc q' [⟨kA, tm + 3, ((t' : Nat) : Int)⟩] t' (u + 2) ep' ∧ (ep ≤ ep' ∧ ep' ≤ ep + 1) ∧ Step F w w' ∧ ∀ k, F' k → F k ∨ w.heap.size ≤ k := by
  have hcl : AgStr.clipT tm = tm := by unfold AgStr.clipT; omega
  refine (res_waits h (by omega) (by omega) kA_sz g tm hq rfl).mono ?_
  rintro e w' ⟨F', A, cA, rfl, hA, hAf, hI, hs, hn⟩
  rw [hcl] at hI ⊢
  simp only [resP_one] at hI ⊢
  rw [show tm + cc.every = tm + 3 from rfl, timL_one (by omega)] at hI
  refine ⟨F', A, cA, _, _, _, ?_, ?_, hI, ?_, hs, hn⟩
  · cases g <;> cases up <;> rfl
  · exact setQ_self _ _ _
  · split <;> omega
theorem up3 {w : World} {p : Nat} {F : Nat → Prop} {q : ByteArray → Option Ho} {L : List (Ev ByteArray)} {ep : Int} {t u : Nat} {g : Bool} {si : Int} {b : Bool} (h : HeR w p F cc q L t u ep) (hq : q kA = some ⟨⟨g, 0, 0, si⟩, b⟩) : Calls Try.prog 13 #[.pointer (some ⟨p, 0, none⟩), .string kA] w fun e w' => e = .returned (.tuple #[.agg #[.string kA, .bool g, .int .i64 si], .bool true]) ∧ Step (fun _ => False) w w' := by
  have := up_calls h kA_sz
  unfold upV at this
  rw [hq] at this
  exact this

/-- The weight of a slope, d ticks after its begin. -/
def rV (W S d : Int) : Int := if S ≤ d then W else mx 1 (Int.tdiv (W * d) S)
theorem wrap64_in {x : Int} (h0 : -9223372036854775808 ≤ x) (h1 : x ≤ 9223372036854775807) : wrap64 x = x := by
  unfold wrap64; omega
theorem ramp_is {W S s n : Int} (hW : 2 ≤ W ∧ W ≤ 1025) (hS : 1 ≤ S ∧ S ≤ 64) (hs : 0 ≤ s) (hn : s ≤ n ∧ n ≤ 1000) : ramp_Weight.f W s n S = some (rV W S (n - s)) := by
  have hc : ∀ x a b : Int, a ≤ x → x ≤ b → mx a (mn x b) = x := fun x a b h1 h2 => by
    have e : mn x b = x := by unfold mn; rw [if_neg (by omega)]
    rw [e]
    unfold mx
    split <;> omega
  unfold ramp_Weight.f ramp_of.f ramp_clip.f
  simp only [Option.bind_some]
  rw [hc W 1 65535 (by omega) (by omega), hc s 0 1099511627776 (by omega) (by omega), hc S 0 1048576 (by omega) (by omega), hc n 0 1099511627776 (by omega) (by omega), wrap64_in (by omega) (by omega)]
  unfold ramp_slope_at.f rV
  rw [if_neg (by omega)]
  by_cases h : n - s ≥ S
  · rw [if_pos h, if_pos h]; rfl
  · rw [if_neg h, if_neg (by omega)]
    have e : mx 0 (n - s) = n - s := by unfold mx; split <;> omega
    have hm0 : 0 ≤ W * (n - s) := Int.mul_nonneg (by omega) (by omega)
    have hm1 : W * (n - s) ≤ 1025 * 1000 := Int.mul_le_mul (by omega) (by omega) (by omega) (by omega)
    have hq0 : 0 ≤ Int.tdiv (W * (n - s)) S := Int.tdiv_nonneg hm0 (by omega)
    have hq1 : Int.tdiv (W * (n - s)) S ≤ W * (n - s) := Int.tdiv_le_self _ hm0
    rw [e, wrap64_in (x := W * (n - s)) (by omega) (by omega), wrap64_in (x := Int.tdiv (W * (n - s)) S) (by omega) (by omega)]
    rfl
theorem weight_calls {W S s n : Int} (hW : 2 ≤ W ∧ W ≤ 1025) (hS : 1 ≤ S ∧ S ≤ 64) (hs : 0 ≤ s) (hn : s ≤ n ∧ n ≤ 1000) (w : World) : Calls Try.prog 14 #[.int .i64 W, .int .i64 s, .int .i64 n, .int .i64 S] w fun e w' => e = .returned (.int .i64 (rV W S (n - s))) ∧ Step (fun _ => False) w w' :=
  (ramp_Weight.calls _ _ _ _ _ w (ramp_is hW hS hs hn)).mono fun e w' h => ⟨h.1, step_bel h.2⟩
theorem bits_1023 (n : Int) : Go.bits .and .i64 n 1023 = n % 1024 := by
  have h7 : (BitVec.ofInt 64 1023).toNat = 2 ^ 10 - 1 := by decide
  have key : (BitVec.ofInt 64 n &&& BitVec.ofInt 64 1023).toNat = (n % ((2 ^ 64 : Nat) : Int)).toNat % 2 ^ 10 := by
    rw [BitVec.toNat_and, BitVec.toNat_ofInt, h7, Nat.and_two_pow_sub_one_eq_mod]
  show IntKind.i64.wrap ((BitVec.ofInt 64 n &&& BitVec.ofInt 64 1023).toNat : Nat) = n % 1024
  rw [key, IntKind.wrap_i64]
  omega
theorem bits_63 (n : Int) : Go.bits .and .i64 n 63 = n % 64 := by
  have h7 : (BitVec.ofInt 64 63).toNat = 2 ^ 6 - 1 := by decide
  have key : (BitVec.ofInt 64 n &&& BitVec.ofInt 64 63).toNat = (n % ((2 ^ 64 : Nat) : Int)).toNat % 2 ^ 6 := by
    rw [BitVec.toNat_and, BitVec.toNat_ofInt, h7, Nat.and_two_pow_sub_one_eq_mod]
  show IntKind.i64.wrap ((BitVec.ofInt 64 n &&& BitVec.ofInt 64 63).toNat : Nat) = n % 64
  rw [key, IntKind.wrap_i64]
  omega
end Go.Proofs.Ytghiklaeenhljaa.Hea

/- health: the Config of the laws. Own work of this seat. -/
namespace Go.Proofs.Ytghiklaeenhljaa.Hea
open Go.RowKit Go.Proofs.Ytghiklaeenhljaa.Kit Go.Proofs.Ytghiklaeenhljaa.PStewardRamps Go.Proofs.YtghiklaeenhljaaW.PrintWords Go.Proofs.Ytghiklaeenhljaa.AgP Go.Proofs.Ytghiklaeenhljaa
set_option linter.unusedVariables false
set_option linter.unusedSimpArgs false

theorem bits_15 (n : Int) : Go.bits .and .i64 n 15 = n % 16 := by
  have h7 : (BitVec.ofInt 64 15).toNat = 2 ^ 4 - 1 := by decide
  have key : (BitVec.ofInt 64 n &&& BitVec.ofInt 64 15).toNat = (n % ((2 ^ 64 : Nat) : Int)).toNat % 2 ^ 4 := by
    rw [BitVec.toNat_and, BitVec.toNat_ofInt, h7, Nat.and_two_pow_sub_one_eq_mod]
  show IntKind.i64.wrap ((BitVec.ofInt 64 n &&& BitVec.ofInt 64 15).toNat : Nat) = n % 16
  rw [key, IntKind.wrap_i64]
  omega
theorem bits_31 (n : Int) : Go.bits .and .i64 n 31 = n % 32 := by
  have h7 : (BitVec.ofInt 64 31).toNat = 2 ^ 5 - 1 := by decide
  have key : (BitVec.ofInt 64 n &&& BitVec.ofInt 64 31).toNat = (n % ((2 ^ 64 : Nat) : Int)).toNat % 2 ^ 5 := by
    rw [BitVec.toNat_and, BitVec.toNat_ofInt, h7, Nat.and_two_pow_sub_one_eq_mod]
  show IntKind.i64.wrap ((BitVec.ofInt 64 n &&& BitVec.ofInt 64 31).toNat : Nat) = n % 32
  rw [key, IntKind.wrap_i64]
  omega
end Go.Proofs.Ytghiklaeenhljaa.Hea

/- health: how far Run goes, how long its events are; plain Lean. Own work of this seat. -/
namespace Go.Proofs.Ytghiklaeenhljaa.Hea
open Go.RowKit Go.Proofs.Ytghiklaeenhljaa.Kit Go.Proofs.Ytghiklaeenhljaa.AgP Go.Proofs.Ytghiklaeenhljaa
set_option linter.unusedVariables false
set_option linter.unusedSimpArgs false

theorem runs_head {c : Cf} {now : Int} {S R : Hs} (h : Runs c now S R) : ∀ s ∈ R.L.head?, now < s.tm := by
  induction h with
  | stop S h => exact h
  | step S R s r e hn _ ih => exact ih
theorem timL_len (r : List (Ev ByteArray)) (t : Nat) (s : ByteArray) (v : Int) : (timL r t s v).1.length ≤ r.length + 1 := by
  unfold timL
  split
  · exact length_set_le _ _ _ _
  · have := List.length_filter_le (fun e : Ev ByteArray => decide (e.key ≠ s)) r
    show (dropL r s).length ≤ _
    unfold dropL
    omega
theorem runs_len {c : Cf} {now : Int} {S R : Hs} (h : Runs c now S R) : R.L.length ≤ S.L.length := by
  induction h with
  | stop S h => exact Nat.le_refl _
  | step S R s r e hn _ ih =>
    refine Nat.le_trans ih ?_
    rw [e]
    exact timL_len r S.t s.key _
theorem runs_ev {c : Cf} (hc : CfOk c) {now : Int} {S R : Hs} (h : Runs c now S R) : (S.L.map (·.key)).Nodup → R.ev.length + 2 * load now R.L ≤ S.ev.length + 2 * load now S.L := by
  induction h with
  | stop S h => exact fun _ => Nat.le_refl _
  | step S R s r e hn _ ih =>
    intro hnd
    rw [e] at hnd
    have hnd' : (r.map (·.key)).Nodup := by rw [List.map_cons, List.nodup_cons] at hnd; exact hnd.2
    have h1 := ih (timL_nd hnd')
    have h2 := load_step hc hnd hn ((S.q s.key).getD zHo) S.t
    have h3 := turE_len ((S.q s.key).getD zHo) c s.key s.tm
    have h4 : (stepH c S s r).ev.length = S.ev.length + (turE ((S.q s.key).getD zHo) c s.key s.tm).length := List.length_append
    have h5 : load now (stepH c S s r).L = load now (timL r S.t s.key (turV ((S.q s.key).getD zHo) c s.tm)).1 := rfl
    rw [e]
    omega
theorem load_le {now lo : Int} : ∀ {L : List (Ev ByteArray)}, (∀ s ∈ L, lo < s.tm) → load now L ≤ L.length * (now - lo).toNat
  | [], _ => by simp [load]
  | s :: r, h => by
    have ih := load_le (now := now) (fun y hy => h y (List.mem_cons_of_mem _ hy))
    have h1 := h s (List.mem_cons_self ..)
    have h2 : load now (s :: r) = (now + 1 - s.tm).toNat + load now r := by simp [load]
    rw [h2, List.length_cons, Nat.succ_mul]
    omega
/-- Sorted, and the head is later: all are. -/
theorem all_later {now : Int} {L : List (Ev ByteArray)} (hs : Sorted L) (h : ∀ s ∈ L.head?, now < s.tm) : ∀ s ∈ L, now < s.tm := by
  cases L with
  | nil => intro s hs; cases hs
  | cons x l =>
    intro s hm
    have hx := h x rfl
    rcases List.mem_cons.1 hm with rfl | hm
    · exact hx
    · have := (List.pairwise_cons.1 hs).1 s hm
      unfold ltE at this
      omega
/-- 0 + 1 + .. : what is summed over rounds. -/
def tri : Nat → Nat
  | 0 => 0
  | i + 1 => tri i + i
theorem tri_le : ∀ i, i ≤ 40 → tri i ≤ 780 := by decide
/-- Who is known has a short name. -/
theorem runs_names {c : Cf} {now : Int} {S R : Hs} (h : Runs c now S R) : ∀ k, AJ c S k → CfOk c → ∀ s, (R.q s).isSome = (S.q s).isSome := by
  induction h with
  | stop S h => exact fun _ _ _ _ => rfl
  | step S R s r e hn _ ih =>
    intro k hk hc y
    rw [ih _ (aj_step hc hk e).1 hc]
    show (setQ S.q s.key _ y).isSome = _
    unfold setQ
    by_cases ey : y = s.key
    · rw [if_pos ey, ey, hk.mem s (by rw [e]; exact List.mem_cons_self ..)]
      rfl
    · rw [if_neg ey]
end Go.Proofs.Ytghiklaeenhljaa.Hea

/- health: the laws' Config and awake. Own work of this seat. -/
namespace Go.Proofs.Ytghiklaeenhljaa.Hea
open Go.RowKit Go.Proofs.Ytghiklaeenhljaa.Kit Go.Proofs.Ytghiklaeenhljaa.PStewardRamps Go.Proofs.YtghiklaeenhljaaW.PrintWords Go.Proofs.Ytghiklaeenhljaa.AgP Go.Proofs.Ytghiklaeenhljaa
set_option linter.unusedVariables false
set_option linter.unusedSimpArgs false

/-- Of a Config with times that aren't too short. -/
def cfgC (d : Cf) : Cf := ⟨1 + d.every % 16, 1 + d.wait % 16, d.rise, d.fall⟩
set_option maxRecDepth 100000 in
theorem config_calls (d : Cf) (w : World) : Calls Try.prog 17 #[.agg #[.int .i64 d.every, .int .i64 d.wait, .int .i64 d.rise, .int .i64 d.fall]] w fun e w' => e = .returned (.agg #[.int .i64 (cfgC d).every, .int .i64 (cfgC d).wait, .int .i64 (cfgC d).rise, .int .i64 (cfgC d).fall]) ∧ Step (fun _ => False) w w' := by
  have b0 := bits_15 d.every
  have b1 := bits_15 d.wait
  have e0 : 0 ≤ d.every % 16 ∧ d.every % 16 < 16 := by omega
  have e1 : 0 ≤ d.wait % 16 ∧ d.wait % 16 < 16 := by omega
  unfold cfgC
  obtain ⟨a, b, r, f⟩ := d
  simp only at b0 b1 e0 e1 ⊢
  generalize a % 16 = x at *
  generalize b % 16 = y at *
  have w0 : IntKind.i64.wrap (1 + x) = 1 + x := by rw [IntKind.wrap_i64]; omega
  have w1 : IntKind.i64.wrap (1 + y) = 1 + y := by rw [IntKind.wrap_i64]; omega
  go_enter Try.func17, Try.ntmps17
  go_upto_region 1 with (fail)
  refine alloc_next2 (cs := [.int .i64 a, .int .i64 b, .int .i64 r, .int .i64 f]) (ds := [.int .i64 0, .int .i64 0, .int .i64 0, .int .i64 0]) ?_
  intro w1 hA hB hs1 hl
  obtain ⟨bb, hbb⟩ : ∃ bb, w.heap.size = bb := ⟨_, rfl⟩
  rw [hbb] at hA hB hl
  have HW := Lib.hid hbb
  rw [hbb]
  clear hbb
  have a0 := hA.cell (i := 0) rfl
  have a1 := hA.cell (i := 1) rfl
  have a2 := hA.cell (i := 2) rfl
  have a3 := hA.cell (i := 3) rfl
  have f0 := hA.free 0
  have f1 := hA.free 1
  go_upto_region 2 with (fail)
  refine hide_blk (w2 := w1) (b := bb) (T := 45) (cs := [.int .i64 (1 + x), .int .i64 (1 + y), .int .i64 r, .int .i64 f]) ((hA.set 0 _).set 1 _) ((step_put w1 bb 0 _).same (step_put _ bb 1 _)) ?_
  intro w2 hA2 hs2
  clear a0 a1 a2 a3 f0 f1 hA
  have a0 := hA2.cell (i := 0) rfl
  have a1 := hA2.cell (i := 1) rfl
  have a2 := hA2.cell (i := 2) rfl
  have a3 := hA2.cell (i := 3) rfl
  have hB2 := hB.keep hs2 (fun e => by omega)
  have HS := Lib.hid hs2
  clear hs2 hA2
  go_wp2_with (refine wpList_store_blk rfl 45 (.tmp 2) (.tmp 13) rfl hB2 rfl (vs := [.int .i64 (1 + x), .int .i64 (1 + y), .int .i64 r, .int .i64 f]) rfl (by kernel_rfl) rfl (fun v hv => by simp only [List.mem_cons, List.not_mem_nil, or_false] at hv; rcases hv with rfl | rfl | rfl | rfl <;> rfl) ?_; intro w9 hZ9 hs9)
  try simp only [Exit.inBlock, Exit.then]
  refine bodyPost_ret (results_cell_row rfl _ _ (bb + 1) 45 _ (0, 0) _ rfl hZ9 Try.underlying45 rfl (by kernel_rfl)) rfl ⟨rfl, ?_⟩
  have hw := HW.out
  exact (hs1.trans HS.out (fun j hj e => by omega)).trans hs9 (fun j hj e => by omega)
def c5 : Cf := ⟨5, 2, 1, 1⟩
theorem clip_520 : clipC ⟨5, 2, 0, 1⟩ = c5 := by rfl
theorem runs_next {c : Cf} {now : Int} {S R : Hs} {s : Ev ByteArray} {r : List (Ev ByteArray)} (k : Runs c now S R) (e : S.L = s :: r) (h : ¬ now < s.tm) : Runs c now (stepH c S s r) R := by
  cases k with
  | stop _ h' => exact absurd (h' s (by rw [e]; rfl)) h
  | step _ _ s' r' e' h' k' =>
    rw [e] at e'
    injection e' with e1 e2
    subst e1 e2
    exact k'
theorem runs_stop {c : Cf} {now : Int} {S R : Hs} (k : Runs c now S R) (h : ∀ s ∈ S.L.head?, now < s.tm) : R = S := by
  cases k with
  | stop _ h' => rfl
  | step _ _ s' r' e' h' k' => exact absurd (h s' (by rw [e']; rfl)) h'
theorem run_awake {q : ByteArray → Option Ho} {R : Hs} (hq : q kA = some ⟨⟨true, 0, 0, 0⟩, false⟩) (k : Runs c5 7 ⟨q, [⟨kA, 5, ((1 : Nat) : Int)⟩], 1, 1, []⟩ R) : R.ev = [⟨1, kA, 5⟩, ⟨2, kA, 7⟩, ⟨4, kA, 7⟩] := by
  have k1 := runs_next k rfl (by show ¬ (7 : Int) < 5; omega)
  have e1 : stepH c5 ⟨q, [⟨kA, 5, ((1 : Nat) : Int)⟩], 1, 1, []⟩ ⟨kA, 5, ((1 : Nat) : Int)⟩ [] = ⟨setQ q kA (some ⟨⟨true, 0, 0, 0⟩, true⟩), [⟨kA, 7, ((2 : Nat) : Int)⟩], 2, 1, [⟨1, kA, 5⟩]⟩ := by
    unfold stepH
    simp only [hq, Option.getD_some]
    unfold turQ turV turE turN
    simp only [Bool.false_eq_true, if_false]
    rw [show (5 : Int) + c5.wait = 7 from rfl, timL_nil (by omega)]
    rfl
  rw [e1] at k1
  have k2 := runs_next k1 rfl (by show ¬ (7 : Int) < 7; omega)
  have e2 : stepH c5 ⟨setQ q kA (some ⟨⟨true, 0, 0, 0⟩, true⟩), [⟨kA, 7, ((2 : Nat) : Int)⟩], 2, 1, [⟨1, kA, 5⟩]⟩ ⟨kA, 7, ((2 : Nat) : Int)⟩ [] = ⟨setQ (setQ q kA (some ⟨⟨true, 0, 0, 0⟩, true⟩)) kA (some ⟨⟨false, 0, 0, 7⟩, false⟩), [⟨kA, 12, ((3 : Nat) : Int)⟩], 3, 2, [⟨1, kA, 5⟩, ⟨2, kA, 7⟩, ⟨4, kA, 7⟩]⟩ := by
    unfold stepH
    simp only [setQ_self, Option.getD_some]
    unfold turQ turV turE turN
    simp only [if_true]
    rw [show (7 : Int) + c5.every = 12 from rfl, timL_nil (by omega)]
    rfl
  rw [e2] at k2
  rw [runs_stop k2 (fun s hs => by
    obtain rfl : (⟨kA, 12, ((3 : Nat) : Int)⟩ : Ev ByteArray) = s := by simpa using hs
    show (7 : Int) < 12
    omega)]
end Go.Proofs.Ytghiklaeenhljaa.Hea

/- health: awake. Own work of this seat. -/
namespace Go.Proofs.Ytghiklaeenhljaa.Hea
open Go.RowKit Go.Proofs.Ytghiklaeenhljaa.Kit Go.Proofs.Ytghiklaeenhljaa.PStewardRamps Go.Proofs.YtghiklaeenhljaaW.PrintWords Go.Proofs.Ytghiklaeenhljaa.AgP Go.Proofs.Ytghiklaeenhljaa
set_option linter.unusedVariables false
set_option linter.unusedSimpArgs false

set_option maxRecDepth 100000 in
theorem eqE (x0 : Int) (x1 : ByteArray) (x2 : Int) (w : World) : (binOp .eql 33 (.agg #[.int .i64 x0, .string x1, .int .i64 x2]) (.agg #[.int .i64 x0, .string x1, .int .i64 x2])).run Try.prog w = .ok (.bool true) w := by
  have h : (Op.equalIn 10000 33 (.agg #[.int .i64 x0, .string x1, .int .i64 x2]) (.agg #[.int .i64 x0, .string x1, .int .i64 x2])).run Try.prog w = .ok true w :=
    eqA_of (d := 9999) Try.underlying33 (by kernel_rfl) (eqf_cons (r := true) (s := true) rfl rfl rfl (eq_int 9998 _ _) (eqf_cons (r := true) (s := true) rfl rfl rfl (eq_str 9998 _ _) (eqf_last (r := true) rfl rfl rfl (eq_int 9998 _ _))))
  simp only [binOp]
  simp [Op.equal, Op.maxDepth, h]
theorem new5 (w : World) : Calls Try.prog 7 #[.agg #[.int .i64 5, .int .i64 2, .int .i64 0, .int .i64 1]] w fun e w' => ∃ p F, e = .returned (.pointer (some ⟨p, 0, none⟩)) ∧ HeR w' p F c5 (fun _ => none) [] 0 0 0 ∧ Step (fun _ => False) w w' ∧ ∀ k, F k → w.heap.size ≤ k := by
  have := new_any ⟨5, 2, 0, 1⟩ w
  rw [clip_520] at this
  exact this
theorem add5 {w : World} {p : Nat} {F : Nat → Prop} (h : HeR w p F c5 (fun _ => none) [] 0 0 0) : Calls Try.prog 8 #[.pointer (some ⟨p, 0, none⟩), .string kA, .bool true, .int .i64 0] w fun e w' => ∃ F' q, e = .returned (.bool true) ∧ q kA = some ⟨⟨true, 0, 0, 0⟩, false⟩ ∧
    HeR w' p F' c5 q [⟨kA, 5, ((1 : Nat) : Int)⟩] 1 2 1 ∧ Step F w w' ∧ ∀ k, F' k → F k ∨ w.heap.size ≤ k := by
  refine (add_new h (by omega) (by omega) kA_sz true 0 rfl).mono ?_
  rintro e w' ⟨F', rfl, h1, h2, h3⟩
  rw [show AgStr.clipT 0 = 0 from rfl, show (0 : Int) + c5.every = 5 from rfl, timL_nil (by omega)] at h1
  exact ⟨F', _, rfl, setQ_self _ _ _, h1, h2, h3⟩
theorem run5 {w : World} {p : Nat} {F : Nat → Prop} {q : ByteArray → Option Ho} (h : HeR w p F c5 q [⟨kA, 5, ((1 : Nat) : Int)⟩] 1 2 1) (hq : q kA = some ⟨⟨true, 0, 0, 0⟩, false⟩) : Calls Try.prog 10 #[.pointer (some ⟨p, 0, none⟩), .int .i64 7] w fun e w' => ∃ A cA, e = .returned (.slice A 3 cA) ∧ ESeg w' A 3 cA [⟨1, kA, 5⟩, ⟨2, kA, 7⟩, ⟨4, kA, 7⟩] ∧ Step F w w' := by
  refine (run_calls h 7 (by decide) (by decide) (fun s hs => by
    obtain rfl : s = ⟨kA, 5, ((1 : Nat) : Int)⟩ := by simpa using hs
    show (0 : Int) ≤ 5 ∧ (5 : Int) ≤ _
    omega)).mono ?_
  rintro e w' ⟨R, F', A, cA, u', hR, rfl, hA, hAf, hI, hu', hep', htm, hs, hn⟩
  have := run_awake hq hR
  rw [this] at hA ⊢
  exact ⟨A, cA, rfl, hA, hs⟩
set_option maxRecDepth 100000 in
set_option maxHeartbeats 2000000 in
theorem awake_calls (w : World) : Calls Try.prog 16 #[] w fun e w' => e = .returned (.bool true) ∧ Step (fun _ => False) w w' := by
  have HN := Lib.hid (fun w1 => new5 w1)
  have e1 := eqE 1 ⟨#[97]⟩ 5
  have e2 := eqE 2 ⟨#[97]⟩ 7
  have e3 := eqE 4 ⟨#[97]⟩ 7
  go_enter Try.func16, Try.ntmps16
  go_upto_region 4 with (go_at_call 7; refine (HN.out _).mono ?_; rintro e1 w1 ⟨p, F, rfl, hI1, hs1, hF1⟩)
  have HAD := Lib.hid (add5 hI1)
  unfold kA at HAD
  go_upto_region 5 with (go_at_call 8; refine HAD.out.mono ?_; rintro e2 w2 ⟨F2, q2, rfl, hq2, hI2, hs2, hn2⟩)
  have HRU := Lib.hid (run5 hI2 hq2)
  clear HAD hI2 hq2 hI1
  go_upto_region 6 with (go_at_call 10; refine HRU.out.mono ?_; rintro e4 w4 ⟨A4, c4, rfl, hA4, hs4⟩)
  obtain ⟨gb, rfl⟩ := FSeg.isSome (n := 3) (k := 3) (T := 33) (cs := evcs [⟨1, kA, 5⟩, ⟨2, kA, 7⟩, ⟨4, kA, 7⟩]) (c := c4) (w := w4) hA4 (by omega)
  have hc : ∀ (j : Nat) (v : Value), (evcs [⟨1, kA, 5⟩, ⟨2, kA, 7⟩, ⟨4, kA, 7⟩])[j]? = some v → w4.cell? ⟨gb, j, none⟩ = some v := fun j v hj => FSeg.cell (n := 3) (k := 3) (T := 33) (c := c4) hA4 hj
  have d0 := hc 0 _ rfl
  have d1 := hc 1 _ rfl
  have d2 := hc 2 _ rfl
  have d3 := hc 3 _ rfl
  have d4 := hc 4 _ rfl
  have d5 := hc 5 _ rfl
  have d6 := hc 6 _ rfl
  have d7 := hc 7 _ rfl
  have d8 := hc 8 _ rfl
  unfold kA at d1 d4 d7
  simp only at d0 d1 d2 d3 d4 d5 d6 d7 d8
  have hst : Step (fun _ => False) w w4 := (hs1.trans hs2 (fun j hj h => by have := hF1 j h; omega)).trans hs4 (fun j hj h => (hn2 j h).elim (fun h => by have := hF1 j h; omega) (fun h => by have := hs1.size; omega))
  have HST := Lib.hid hst
  clear hc hA4 hst hs1 hs2 hs4 hn2 hF1 HRU HN
  go_wp2
  go_ret
  exact ⟨rfl, HST.out⟩
end Go.Proofs.Ytghiklaeenhljaa.Hea

/- Maps from strings to whole numbers, as functions. Own work of this seat; no condition. -/
namespace Go.Proofs.Ytghiklaeenhljaa.Kit
open Go.RowKit Go.Maps Go.ChangeMaps
set_option linter.unusedVariables false
set_option linter.unusedSimpArgs false

theorem slit_ne {s t : ByteArray} (h : s ≠ t) : slit s ≠ slit t := fun e => h (slit_inj e)
theorem sskey {s : ByteArray} (h : s.size ≤ 1000) : keyOf Try.prog 9 (.string s) = some (slit s) := skey Try.underlying9 (by omega)
theorem skeyed : Keyed Try.prog 9 := string_keyed Try.underlying9
theorem szero_int (w : World) : (zeroValue 3).run Try.prog w = .ok (.int .i64 0) w := by kernel_rfl

/-- Block b is a map; under s it has f s (0 where there is none); it was stored into at most n times. -/
def MInt (w : World) (b n : Nat) (f : ByteArray → Int) : Prop :=
  ∃ D : DataW Unit, w.ownsMap Try.prog 9 (plainElem Try.prog 3) b n D ∧ ∀ s, D.atKey (slit s) (.lit (.int .i64 0)) = .lit (.int .i64 (f s))
def mupd (f : ByteArray → Int) (s : ByteArray) (v : Int) : ByteArray → Int := fun t => if t = s then v else f t
theorem mupd_same (f : ByteArray → Int) (s : ByteArray) (v : Int) : mupd f s v s = v := if_pos rfl
theorem mupd_other (f : ByteArray → Int) {s t : ByteArray} (v : Int) (h : t ≠ s) : mupd f s v t = f t := if_neg h
theorem MInt.lt {w : World} {b n : Nat} {f : ByteArray → Int} (h : MInt w b n f) : b < w.heap.size := by obtain ⟨D, hD, _⟩ := h; exact hD.lt
theorem ownsMap_keep {w w' : World} {F : Nat → Prop} {b n : Nat} {D : DataW Unit} {R : Value → Option (DataW Unit × List MemPlace)} (h : w.ownsMap Try.prog 9 R b n D) (hs : Step F w w') (hb : ¬ F b) : w'.ownsMap Try.prog 9 R b n D := by
  have hlt := h.lt
  obtain ⟨es, clock, hb', G, hn, hD⟩ := h
  exact ⟨es, clock, (hs.block b hlt hb).trans hb', G, hn, hD⟩
theorem MInt.keep {w w' : World} {F : Nat → Prop} {b n : Nat} {f : ByteArray → Int} (h : MInt w b n f) (hs : Step F w w') (hb : ¬ F b) : MInt w' b n f := by
  obtain ⟨D, hD, hf⟩ := h
  exact ⟨D, ownsMap_keep hD hs hb, hf⟩
theorem mint_new (w : World) : MInt (w.alloc (.map #[] 0)) w.heap.size 0 (fun _ => 0) := ⟨_, World.ownsMap_made _ _ _ _, fun s => rfl⟩

section
variable {ops : Array Oper} {rest : List Oper} {o : Oper} {a : Act} {Q : Exit → Act → World → Prop} {w : World}
theorem wpList_mint_look (hg : o.guard = none) (m x : Operand) (hop : o.op = Op.lookup 49 m x false) {b n : Nat} {f : ByteArray → Int} (h : MInt w b n f) {s : ByteArray} (hs : s.size ≤ 1000) (hm : a.eval m = .map (some b)) (hx : a.eval x = .string s)
    (hK : wpList Try.prog ops Q rest (a.put o.dst (.int .i64 (f s))) w) : wpList Try.prog ops Q (o :: rest) a w := by
  obtain ⟨D, hD, hf⟩ := h
  refine wpList_lookup_own_int w hg m x 49 hop 9 3 .i64 skeyed Try.underlying49 Try.underlying3 (szero_int _) b n D hm hD _ _ hx (sskey hs) ?_
  intro c hat _
  rw [hf s] at hat
  injection hat with hat
  injection hat with _ hat
  subst hat
  exact hK
theorem wpList_mint_put (hg : o.guard = none) (m x v : Operand) (hop : o.op = Op.mapUpdate 49 m x v) {b n : Nat} {f : ByteArray → Int} (h : MInt w b n f) (hn : n ≤ 1000000) {s : ByteArray} (hs : s.size ≤ 1000) {i : Int} (h0 : -9223372036854775808 ≤ i) (h1 : i ≤ 9223372036854775807) (hm : a.eval m = .map (some b)) (hx : a.eval x = .string s) (hv : a.eval v = .int .i64 i)
    (hK : ∀ w', MInt w' b (n + 1) (mupd f s i) → Step (· = b) w w' → wpList Try.prog ops Q rest (a.put o.dst undef) w') : wpList Try.prog ops Q (o :: rest) a w := by
  obtain ⟨D, hD, hf⟩ := h
  refine wpList_mapUpdate_own w hg m x v 49 hop 9 3 skeyed Try.underlying49 _ b n D hm hD (by unfold maxLen; omega) _ _ (slit s) hx hv (sskey hs) _ [] (plainElem_int Try.underlying3 (WalkArith.wf_i64 ⟨h0, h1⟩)) ?_
  intro w' hown hgr
  refine hK w' ⟨_, hown, fun t => ?_⟩ (step_of_grown_some hgr)
  by_cases e : t = s
  · subst e
    rw [mupd_same, atKey_put_same hD.isMap (show WideAt.IsKeyLit (slit _) from trivial)]
  · rw [mupd_other f i e, atKey_put_other (slit_ne e), hf t]
end


set_option maxRecDepth 100000 in
theorem mint_run {w : World} {b n : Nat} {f : ByteArray → Int} (h : MInt w b n f) {s : ByteArray} (hs : s.size ≤ 1000) : (Instr.lookup 49 (.map (some b)) (.string s) false).run Try.prog w = .ok (.int .i64 (f s)) w := by
  obtain ⟨D, hD, hf⟩ := h
  obtain ⟨c, hrun, hat, _⟩ := hD.lookup_int skeyed Try.underlying49 Try.underlying3 (szero_int _) (sskey hs)
  rw [hf s] at hat
  injection hat with hat
  injection hat with _ hat
  rw [hrun, hat]
end Go.Proofs.Ytghiklaeenhljaa.Kit

/- stewardlaw01.Cut: a text's first bytes. Own work of this seat. -/
namespace Go.Proofs.Ytghiklaeenhljaa.Cut
open Go.RowKit Go.Proofs.Ytghiklaeenhljaa.Kit
set_option linter.unusedVariables false
set_option linter.unusedSimpArgs false
def cutB (s : ByteArray) (n : Nat) : ByteArray := if n < s.size then s.extract 0 n else s
theorem cutB_size (s : ByteArray) (n : Nat) : (cutB s n).size ≤ n := by
  unfold cutB
  split
  · rw [ByteArray.size_extract]; omega
  · omega
set_option maxRecDepth 100000 in
theorem cut_calls (s : ByteArray) (n : Nat) (hs : s.size ≤ 9223372036854775807) (w : World) : Calls Try.prog 18 #[.string s, .int .i64 (n : Int)] w fun e w' => e = .returned (.string (cutB s n)) ∧ w = w' := by
  unfold cutB
  by_cases h : n < s.size
  · rw [if_pos h]
    have h' : (n : Int) < (s.size : Int) := by omega
    have h0 : (0 : Int) ≤ (n : Int) := by omega
    have h1 : (n : Int) ≤ (s.size : Int) := by omega
    go_enter Try.func18, Try.ntmps18
    go_wp2
    go_ret
    exact ⟨rfl, rfl⟩
  · rw [if_neg h]
    have h' : ¬ (n : Int) < (s.size : Int) := by omega
    go_enter Try.func18, Try.ntmps18
    go_wp2
    go_ret
    exact ⟨rfl, rfl⟩
end Go.Proofs.Ytghiklaeenhljaa.Cut

/- Openers of arguments of whatever kinds (slices of structs, strings, numbers, slices), and how arguments are read again behind a call. Own work of this seat; no condition. -/
namespace Go.Proofs.Ytghiklaeenhljaa.Base
open Go.RowKit Go.Proofs.YtghiklaeenhljaaW.PrintWords Go.Deep

section
variable {H : Type} (enc : TypeId × Value → H) (P : Program) (W : World) (base : Nat) (spare : Nat → Bool) (held : Bool)

/-- Whatever is read at type t is an element of kind d, and G holds of it. -/
def Opens {α : Type} (d : Kd α) (G : α → Prop) (t : TypeId) : Prop :=
  P.cellsOf t = d.sz ∧ ∀ (n : Nat) (cs : List Value) (y : DataW H × List MemPlace), DataW.trod enc P W base spare held n t cs = some y → ∃ p, d.K W p cs ∧ G p

/-- Likewise of a struct's fields from offset o on. -/
def FOpens {α : Type} (d : Kd α) (G : α → Prop) (fs : List Field) (o : Nat) : Prop :=
  ∀ (n : Nat) (cs : List Value), cs.length = o + d.sz → (∀ f ∈ fs, ∃ y, DataW.trod enc P W base spare held n f.type ((cs.drop f.offset).take (P.cellsOf f.type)) = some y) → ∃ p, d.K W p (cs.drop o) ∧ G p
end

section
variable {H : Type} {enc : TypeId × Value → H} {P : Program} {W : World} {base : Nat} {spare : Nat → Bool} {held : Bool}

theorem opens_int {k : IntKind} {t : TypeId} (ht : P.underlying t = some (.int k)) (hc : P.cellsOf t = 1) : Opens enc P W base spare held (Kd.int k) (fun n => (Lit.int k n).wf = true) t :=
  ⟨hc, fun n cs y h => by
    obtain ⟨m, rfl, _, hw⟩ := DataW.trod_int ht h
    exact ⟨m, rfl, hw⟩⟩
theorem opens_bool {t : TypeId} (ht : P.underlying t = some .bool) (hc : P.cellsOf t = 1) : Opens enc P W base spare held Kd.bool (fun _ => True) t :=
  ⟨hc, fun n cs y h => by
    obtain ⟨b, rfl, _⟩ := DataW.trod_bool ht h
    exact ⟨b, rfl, trivial⟩⟩
theorem opens_string {t : TypeId} (ht : P.underlying t = some .string) (hc : P.cellsOf t = 1) : Opens enc P W base spare held Kd.string (fun s => s.size ≤ maxLen) t :=
  ⟨hc, fun n cs y h => by
    obtain ⟨s, rfl, _, hs⟩ := DataW.trod_string ht h
    exact ⟨s, rfl, hs⟩⟩

/-- From 'for each i below n there is a p' to a list. -/
theorem list_of {α : Type} {Q : Nat → α → Prop} : ∀ (n : Nat), (∀ i, i < n → ∃ p, Q i p) → ∃ xs : List α, xs.length = n ∧ ∀ i p, xs[i]? = some p → Q i p
  | 0, _ => ⟨[], rfl, fun i p h => by simp at h⟩
  | n + 1, h => by
    obtain ⟨xs, hl, hx⟩ := list_of n (fun i hi => h i (by omega))
    obtain ⟨p, hp⟩ := h n (by omega)
    refine ⟨xs ++ [p], by simp [hl], fun i q hq => ?_⟩
    rcases Nat.lt_or_ge i xs.length with hi | hi
    · rw [List.getElem?_append_left hi] at hq
      exact hx i q hq
    · rw [List.getElem?_append_right hi] at hq
      have : i - xs.length = 0 := by
        rcases Nat.eq_zero_or_pos (i - xs.length) with h0 | h0
        · exact h0
        · rw [List.getElem?_eq_none (by simp; omega)] at hq
          cases hq
      rw [this] at hq
      simp at hq
      subst hq
      rw [show i = n by omega]
      exact hp

theorem opens_row {α : Type} {d : Kd α} {G : α → Prop} {t e : TypeId} {fuel : Nat} {cs : List Value} {y : DataW H × List MemPlace} (ht : P.underlying t = some (.slice e)) (hd : Opens enc P W base spare held d G e) (h : DataW.trod enc P W base spare held fuel t cs = some y) :
    ∃ (A : Option Addr) (c : Nat) (xs : List α), cs = [.slice A xs.length c] ∧ xs.length ≤ c ∧ d.C W A xs.length xs ∧ (∀ x ∈ xs, G x) := by
  rcases open_slice ht h with ⟨rfl, rfl⟩ | ⟨a, len, cap, m, n, D, Pl, rfl, hb, hl, hm, hmm, rfl, hx⟩
  · exact ⟨none, 0, [], rfl, Nat.le_refl _, ⟨rfl, by simp, fun h0 => by simp at h0⟩, fun x hx => by simp at hx⟩
  · have hlm : len ≤ m := by rw [hmm]; split <;> omega
    obtain ⟨xs, hxl, hxs⟩ := list_of (Q := fun i p => ∃ cs', cs'.length = P.cellsOf e ∧ (∀ j u, cs'[j]? = some u → W.cell? ((a.add (i * P.cellsOf e)).add j) = some u) ∧ d.K W p cs' ∧ G p) len (fun i hi => by
      obtain ⟨cs', h1, h2⟩ := hx i (by omega)
      obtain ⟨_, h3, h4⟩ := World.cells?_some h1
      obtain ⟨p, hp, hg⟩ := hd.2 _ _ _ h2
      exact ⟨p, cs', h3, fun j u hu => by
        have hj := (List.getElem?_eq_some_iff.1 hu).1
        rw [h4 j (by omega)]; exact hu, hp, hg⟩)
    unfold maxLen at hm
    refine ⟨some a, cap, xs, by rw [hxl], by omega, ⟨rfl, by omega, fun _ => ⟨a, rfl, fun j p hj => ?_⟩⟩, fun x hx => ?_⟩
    · obtain ⟨cs', h3, h4, hp, _⟩ := hxs j p hj
      refine ⟨cs', by rw [h3, hd.1], hp, fun i u hu => ?_⟩
      rw [← hd.1, ← Deep.add_add]
      exact h4 i u hu
    · obtain ⟨j, hj⟩ := List.getElem?_of_mem hx
      obtain ⟨_, _, _, _, hg⟩ := hxs j x hj
      exact hg

theorem opens_slice {α : Type} {d : Kd α} {G : α → Prop} {t e : TypeId} (ht : P.underlying t = some (.slice e)) (hc : P.cellsOf t = 1) (hd : Opens enc P W base spare held d G e) :
    Opens enc P W base spare held (Kd.slice e d) (fun xs => ∀ x ∈ xs, G x) t :=
  ⟨hc, fun n cs y h => by
    obtain ⟨A, c, xs, rfl, h1, h2, h3⟩ := opens_row ht hd h
    exact ⟨xs, ⟨A, c, rfl, h1, h2⟩, h3⟩⟩

theorem opens_iso {α β : Type} {d : Kd α} {G : α → Prop} {t : TypeId} (f : β → α) (g : α → β) (hfg : ∀ x, f (g x) = x) (h : Opens enc P W base spare held d G t) :
    Opens enc P W base spare held (Kd.iso d f) (fun x => G (f x)) t :=
  ⟨h.1, fun n cs y hy => by
    obtain ⟨p, hp, hg⟩ := h.2 n cs y hy
    refine ⟨g p, ?_, ?_⟩
    · show d.K W (f (g p)) cs
      rw [hfg]; exact hp
    · show G (f (g p))
      rw [hfg]; exact hg⟩

theorem fopens_last {α : Type} {d : Kd α} {G : α → Prop} {f : Field} {o : Nat} (ho : f.offset = o) (h : Opens enc P W base spare held d G f.type) : FOpens enc P W base spare held d G [f] o := by
  intro n cs hl hf
  obtain ⟨y, hy⟩ := hf f List.mem_cons_self
  obtain ⟨p, hp, hg⟩ := h.2 _ _ _ hy
  rw [ho, h.1, List.take_of_length_le (by rw [List.length_drop]; omega)] at hp
  exact ⟨p, hp, hg⟩

theorem fopens_cons {α β : Type} {d : Kd α} {d' : Kd β} {G : α → Prop} {G' : β → Prop} {f : Field} {fs : List Field} {o : Nat} (ho : f.offset = o) (h : Opens enc P W base spare held d G f.type) (h' : FOpens enc P W base spare held d' G' fs (o + d.sz)) :
    FOpens enc P W base spare held (Kd.pair d d') (fun x => G x.1 ∧ G' x.2) (f :: fs) o := by
  intro n cs hl hf
  obtain ⟨y, hy⟩ := hf f List.mem_cons_self
  obtain ⟨p, hp, hg⟩ := h.2 _ _ _ hy
  obtain ⟨q, hq, hg'⟩ := h' n cs (by rw [hl]; show o + (d.sz + d'.sz) = _; omega) (fun f' hf' => hf f' (List.mem_cons_of_mem _ hf'))
  rw [ho, h.1] at hp
  refine ⟨(p, q), ⟨_, _, ?_, hp, hq⟩, hg, hg'⟩
  rw [← List.drop_drop, List.take_append_drop]

theorem opens_struct {α : Type} {d : Kd α} {G : α → Prop} {t : TypeId} {fs : Array Field} (ht : P.underlying t = some (.struct fs)) (hc : P.cellsOf t = d.sz) (h : FOpens enc P W base spare held d G fs.toList 0) :
    Opens enc P W base spare held d G t :=
  ⟨hc, fun n cs y hy => by
    obtain ⟨xs, m, rfl, rfl, hl, hlen, hf⟩ := DataW.trod_struct ht hy
    have := h m cs (by omega) (fun f hf' => by
      obtain ⟨i, hi⟩ := List.getElem?_of_mem hf'
      rw [Array.getElem?_toList] at hi
      have hlt : i < xs.length := by
        have := (Array.getElem?_eq_some_iff.1 hi).1
        omega
      exact ⟨xs[i], by rw [hf i f hi, List.getElem?_eq_getElem hlt]⟩)
    simpa using this⟩

theorem okWide_array {r : Reach} {m n : Nat} {t e : TypeId} {v : Value} (ht : P.underlying t = some (.array n e)) (h : Value.okWide P W r m t v) : ∃ cs, v = .agg cs ∧ cs.size = P.cellsOf t := by
  simp only [Value.okWide, ht] at h
  obtain ⟨cs, h1, h2, _⟩ := h
  exact ⟨cs, h1, h2⟩

/-- An array of bytes by value. -/
theorem open_key {t e : TypeId} {n fuel : Nat} {cs : Array Value} {y : DataW H × List MemPlace} (ht : P.underlying t = some (.array n e)) (he : P.underlying e = some (.int .u8)) (hc : P.cellsOf e = 1 ∧ P.cellsOf t = n) (h : DataW.trod enc P W base spare held fuel t (Value.agg cs).cells.toList = some y) :
    ∃ key : List UInt8, key.length = n ∧ cs = (key.map fun b => Value.int .u8 (b.toNat : Int)).toArray := by
  have hcs : (Value.agg cs).cells.toList = cs.toList := rfl
  rw [hcs] at h
  obtain ⟨xs, m, _, _, hl, hxl, hx⟩ := DataW.trod_array ht h
  rw [hc.2] at hl
  obtain ⟨key, hkl, hkey⟩ := list_of (Q := fun i (b : UInt8) => cs.toList[i]? = some (.int .u8 (b.toNat : Int))) n (fun i hi => by
    have h1 := hx i hi
    rw [hc.1, List.getElem?_eq_getElem (by omega)] at h1
    obtain ⟨k, hk, _, hw⟩ := DataW.trod_int he h1
    have hb : 0 ≤ k ∧ k ≤ 255 := by
      simp [Lit.wf, IntKind.min, IntKind.max, IntKind.signed, IntKind.bits] at hw
      omega
    refine ⟨UInt8.ofNat k.toNat, ?_⟩
    have h2 : (cs.toList.drop (i * 1)).take 1 = [cs.toList[i]'(by omega)] := by
      rw [Nat.mul_one, List.drop_eq_getElem_cons (by omega)]
      rfl
    rw [h2] at hk
    rw [List.getElem?_eq_getElem (by omega)]
    simp only [List.cons.injEq, and_true] at hk
    rw [hk, UInt8.toNat_ofNat']
    congr 2
    omega)
  refine ⟨key, hkl, ?_⟩
  apply Array.ext'
  apply List.ext_getElem?
  intro i
  rw [List.getElem?_map]
  rcases Nat.lt_or_ge i n with hi | hi
  · rw [hkey i (key[i]'(by omega)) (List.getElem?_eq_getElem (by omega)), List.getElem?_eq_getElem (by omega)]
    rfl
  · rw [List.getElem?_eq_none (by omega), List.getElem?_eq_none (by omega)]
    rfl

/-- The arguments read behind the call as they read ahead of it. -/
theorem trodAll_keep (hl : laidOutB P = true) {W' : World} (bel : Below W.heap.size W W') : ∀ {ts : List TypeId} {vs : List Value} {ds : List (DataW H)} {ps : List MemPlace}, (∀ t ∈ ts, P.readableRec t = true ∧ t < P.types.size) →
    DataW.TrodAll enc P W 0 (fun _ => true) true ts vs ds ps → DataW.TrodAll enc P W' 0 (fun b => decide (b < W.heap.size)) true ts vs ds ps
  | [], [], [], ps, _, h => h
  | [], [], _ :: _, _, _, h => h.elim
  | [], _ :: _, _, _, _, h => h.elim
  | _ :: _, [], _, _, _, h => h.elim
  | _ :: _, _ :: _, [], _, _, h => h.elim
  | t :: ts, v :: vs, d :: ds, ps, ht, h => by
    have hlt := h.lt
    obtain ⟨p, q, h1, h2, rfl⟩ := h
    exact ⟨p, q, Below.trod hl (ht t List.mem_cons_self).1 (ht t List.mem_cons_self).2 h1 bel (fun x hx => hlt x (List.mem_append_left _ hx)), trodAll_keep hl bel (fun t' ht' => ht t' (List.mem_cons_of_mem _ ht')) h2, rfl⟩

end
end Go.Proofs.Ytghiklaeenhljaa.Base

/- health: the acts of law 23, and what stands between the acts of HealthEpochs. Own work of this seat. -/
namespace Go.Proofs.Ytghiklaeenhljaa.Hea
open Go.RowKit Go.Proofs.Ytghiklaeenhljaa.Kit Go.Proofs.Ytghiklaeenhljaa.PStewardRamps Go.Proofs.YtghiklaeenhljaaW.PrintWords Go.Proofs.Ytghiklaeenhljaa.AgP Go.Proofs.Ytghiklaeenhljaa
set_option linter.unusedVariables false
set_option linter.unusedSimpArgs false

/-- An act: its kind, ticks, name; good. -/
structure Act5 where
  f0 : Int
  f1 : Int
  f2 : ByteArray
  f3 : Bool
def kAct5 : Kd Act5 := Kd.iso (Kd.pair (Kd.int .i64) (Kd.pair (Kd.int .i64) (Kd.pair Kd.string Kd.bool))) (fun x : Act5 => (x.f0, x.f1, x.f2, x.f3))
theorem kAct5_open {w : World} {x : Act5} {cs : List Value} (h : kAct5.K w x cs) : cs = [.int .i64 x.f0, .int .i64 x.f1, .string x.f2, .bool x.f3] := by
  obtain ⟨_, _, rfl, rfl, ⟨_, _, rfl, rfl, ⟨_, _, rfl, rfl, rfl⟩⟩⟩ := h
  exact rfl
def zAct5 : Act5 := ⟨0, 0, ⟨#[]⟩, false⟩
theorem cell_lt {w : World} {p : Addr} {v : Value} (h : w.cell? p = some v) : p.block < w.heap.size := by
  rcases Nat.lt_or_ge p.block w.heap.size with hl | hl
  · exact hl
  · unfold World.cell? at h
    rw [Array.getElem?_eq_none hl] at h
    simp at h
theorem cell_bel {w w' : World} {p : Addr} {v : Value} (h : w.cell? p = some v) (hb : Below w.heap.size w w') : w'.cell? p = some v := by
  rw [hb.cell (cell_lt h)]; exact h
theorem act_at {w : World} {A : Option Addr} {n : Nat} {xs : List Act5} (h : Kd.C kAct5 w A n xs) (i : Nat) (h1 : i < n) : ∃ (ad : Addr) (x : Act5), A = some ad ∧ x = xs.getD i zAct5 ∧ ∀ w', Below w.heap.size w w' → w'.cell? (ad.add (i * 4)) = some (.int .i64 x.f0) ∧ w'.cell? ⟨(ad.add (i * 4)).block, (ad.add (i * 4)).off + 1, none⟩ = some (.int .i64 x.f1) ∧ w'.cell? ⟨(ad.add (i * 4)).block, (ad.add (i * 4)).off + 2, none⟩ = some (.string x.f2) ∧ w'.cell? ⟨(ad.add (i * 4)).block, (ad.add (i * 4)).off + 3, none⟩ = some (.bool x.f3) := by
  obtain ⟨ad, c, e, _, hK, hc0⟩ := Kd.C_get h zAct5 (i : Int) (by omega) (by omega)
  have hc : ∀ j u, c[j]? = some u → w.cell? (ad.add (i * 4 + j)) = some u := hc0
  obtain rfl := kAct5_open hK
  exact ⟨ad, _, e, rfl, fun w' hb => ⟨cell_bel (hc 0 _ rfl) hb, cell_bel (by rw [← add_field _ _ 1 (by omega)]; exact hc 1 _ rfl) hb, cell_bel (by rw [← add_field _ _ 2 (by omega)]; exact hc 2 _ rfl) hb, cell_bel (by rw [← add_field _ _ 3 (by omega)]; exact hc 3 _ rfl) hb⟩⟩

theorem clip_wait (d : Cf) : (clipC (cfgC d)).wait = (cfgC d).wait := by
  show mx 1 (mn (1 + d.wait % 16) 1048576) = 1 + d.wait % 16
  unfold mx mn
  split <;> split <;> omega
theorem aj_new (c : Cf) : AJ c ⟨fun _ => none, [], 0, 0, []⟩ (fun _ => 0) :=
  ⟨fun e h => (by cases h), List.nodup_nil, fun s => ⟨fun h => absurd rfl h, fun ⟨x, h, _⟩ => (by cases h)⟩, fun e h => (by cases h), fun e h => (by cases h)⟩
theorem evK_1 {k : ByteArray → Int} {e : Evn} (h : e.kind = 1) : evK k e = mupd k e.name (1 + e.tm) := by
  funext s
  unfold evK mupd
  rw [if_pos h]
theorem evK_2 {k : ByteArray → Int} {e : Evn} (h : e.kind = 2) : evK k e = mupd k e.name 0 := by
  funext s
  unfold evK mupd
  rw [if_neg (by omega), if_pos h]
theorem evK_3 {k : ByteArray → Int} {e : Evn} (h1 : e.kind ≠ 1) (h2 : e.kind ≠ 2) : evK k e = k := by
  funext s
  unfold evK
  rw [if_neg h1, if_neg h2]
theorem evsK_take {k : ByteArray → Int} {l : List Evn} {j : Nat} {e : Evn} (h : l[j]? = some e) : evsK k (l.take (j + 1)) = evK (evsK k (l.take j)) e := by
  rw [List.take_add_one, h]
  show evsK k (l.take j ++ [e]) = _
  rw [evsK_append]
  rfl
theorem turned_take {l : List Evn} {j : Nat} {e : Evn} (h : l[j]? = some e) : turned (l.take (j + 1)) = turned (l.take j) + (if e.kind = 1 ∨ e.kind = 2 then 0 else 1) := by
  rw [List.take_add_one, h]
  show turned (l.take j ++ [e]) = _
  rw [turned_append]
  show _ + ((if e.kind = 1 ∨ e.kind = 2 then 0 else 1) + 0) = _
  omega
theorem evsOk_get {c : Cf} : ∀ {l : List Evn} {k : ByteArray → Int} {j : Nat} {e : Evn}, evsOk c k l → l[j]? = some e → evOk c (evsK k (l.take j)) e
  | [], k, j, e, _, h => by simp at h
  | x :: l, k, 0, e, ho, h => by
    obtain rfl : x = e := by simpa using h
    exact ho.1
  | x :: l, k, j + 1, e, ho, h => evsOk_get (k := evK k x) ho.2 (by simpa using h)
theorem turned_le : ∀ l : List Evn, turned l ≤ l.length
  | [] => Int.le_refl _
  | e :: r => by
    have := turned_le r
    rw [List.length_cons]
    unfold turned
    split <;> omega
theorem turE_name {x : Ho} {c : Cf} {s : ByteArray} {at_ : Int} : ∀ e ∈ turE x c s at_, e.name = s ∧ e.tm = at_ := by
  intro e he
  unfold turE resE at he
  split at he
  · split at he
    · simp only [List.mem_cons, List.not_mem_nil, or_false] at he
      rcases he with rfl | rfl <;> exact ⟨rfl, rfl⟩
    · simp only [List.mem_cons, List.not_mem_nil, or_false] at he
      rw [he]; exact ⟨rfl, rfl⟩
  · simp only [List.mem_cons, List.not_mem_nil, or_false] at he
    rw [he]; exact ⟨rfl, rfl⟩
/-- Events tell of those who are known, at no time before 0. -/
theorem runs_evn {c : Cf} (hc : CfOk c) {now : Int} {S R : Hs} (h : Runs c now S R) : ∀ k, AJ c S k → ∃ l, R.ev = S.ev ++ l ∧ ∀ e ∈ l, (S.q e.name).isSome = true ∧ 0 ≤ e.tm := by
  induction h with
  | stop S _ => exact fun k hk => ⟨[], (List.append_nil _).symm, fun e he => by simp at he⟩
  | step S R s r e hn _ ih =>
    intro k hk
    have hm := hk.mem s (by rw [e]; exact List.mem_cons_self ..)
    have h0 := hk.tm0 s (by rw [e]; exact List.mem_cons_self ..)
    obtain ⟨a1, a2, a3⟩ := aj_step hc hk e
    obtain ⟨l, b1, b2⟩ := ih _ a1
    refine ⟨turE ((S.q s.key).getD zHo) c s.key s.tm ++ l, ?_, fun y hy => ?_⟩
    · rw [b1]
      exact List.append_assoc _ _ _
    · rcases List.mem_append.1 hy with hy | hy
      · obtain ⟨e1, e2⟩ := turE_name y hy
        rw [e1, e2]
        exact ⟨hm, h0⟩
      · obtain ⟨e1, e2⟩ := b2 y hy
        refine ⟨?_, e2⟩
        have e3 : (setQ S.q s.key (some (turQ ((S.q s.key).getD zHo) c s.tm)) y.name).isSome = true := e1
        unfold setQ at e3
        by_cases ey : y.name = s.key
        · rw [ey]; exact hm
        · rwa [if_neg ey] at e3
/-- What Run leaves and tells, of a state between acts. -/
theorem run_told {c : Cf} (hc : CfOk c) {now : Int} {q : ByteArray → Option Ho} {L : List (Ev ByteArray)} {t : Nat} {ep : Int} {k : ByteArray → Int} {R : Hs} (h : Runs c now ⟨q, L, t, ep, []⟩ R) (hk : AJ c ⟨q, L, t, ep, []⟩ k) :
    AJ c ⟨R.q, R.L, R.t, R.ep, []⟩ (evsK k R.ev) ∧ evsOk c k R.ev ∧ R.ep = ep + turned R.ev ∧ (∀ e ∈ R.ev, (q e.name).isSome = true ∧ 0 ≤ e.tm ∧ e.tm ≤ now) ∧ (turned R.ev = 0 → SameV q R.q) ∧ (∀ s, (R.q s).isSome = (q s).isSome) ∧ R.L.length ≤ L.length ∧ R.ev.length + 2 * load now R.L ≤ 2 * load now L := by
  obtain ⟨l, b1, b2, b3, b4, b5⟩ := aj_run hc h k hk
  obtain ⟨l2, d1, d2⟩ := runs_evn hc h k hk
  have e1 : R.ev = l := b1
  have e2 : R.ev = l2 := d1
  have hl : R.ev.length + 2 * load now R.L ≤ 0 + 2 * load now L := runs_ev hc h hk.nd
  obtain rfl : R.ev = l := e1
  rw [← e2] at d2
  refine ⟨aj_same b2 (fun _ => rfl) _ _ _, b3, b4, fun e he => ⟨(d2 e he).1, (d2 e he).2, b5 e he⟩, samev_run hc h k hk _ b1, runs_names h k hk hc, runs_len h, ?_⟩
  omega

theorem HeR.sorted {w : World} {p : Nat} {F : Nat → Prop} {c : Cf} {q : ByteArray → Option Ho} {L : List (Ev ByteArray)} {t u : Nat} {ep : Int} (h : HeR w p F c q L t u ep) : Sorted L := by
  obtain ⟨_, _, _, _, _, _, _, hx, _⟩ := h
  exact hx.ag.sorted
theorem evcs_at {l : List Evn} {j : Nat} {e : Evn} (h : l[j]? = some e) : (evcs l)[j * 3]? = some (.int .i64 e.kind) ∧ (evcs l)[j * 3 + 1]? = some (.string e.name) ∧ (evcs l)[j * 3 + 2]? = some (.int .i64 e.tm) := by
  have hl := (List.getElem?_eq_some_iff.1 h).1
  have e1 : evcs l = evcs (l.take j) ++ (evc e ++ evcs (l.drop (j + 1))) := by
    have h2 : l[j] = e := (List.getElem?_eq_some_iff.1 h).2
    have h3 : l = l.take j ++ (e :: l.drop (j + 1)) := by rw [← h2, ← List.drop_eq_getElem_cons hl, List.take_append_drop]
    have h4 := congrArg evcs h3
    rw [evcs_append] at h4
    exact h4
  have e2 : (evcs (l.take j)).length = j * 3 := by rw [evcs_length, List.length_take, Nat.min_eq_left (Nat.le_of_lt hl)]
  rw [e1]
  refine ⟨?_, ?_, ?_⟩
  · rw [List.getElem?_append_right (by omega), e2, Nat.sub_self]; rfl
  · rw [List.getElem?_append_right (by omega), e2, Nat.add_sub_cancel_left]; rfl
  · rw [List.getElem?_append_right (by omega), e2, Nat.add_sub_cancel_left]; rfl

/-- Between the acts of HealthEpochs. -/
structure EJ (w0 w : World) (p b cb : Nat) (F : Nat → Prop) (d c : Cf) (q : ByteArray → Option Ho) (L : List (Ev ByteArray)) (t u : Nat) (ep : Int) (k : ByteArray → Int) (now : Int) (m ul el : Nat) : Prop where
  her : HeR w p F c q L t u ep
  mp : MInt w b m k
  cfg : Blk w cb 45 [.int .i64 d.every, .int .i64 d.wait, .int .i64 d.rise, .int .i64 d.fall]
  sep : ¬ F b ∧ ¬ F cb ∧ b ≠ cb
  low : (∀ k, F k → w0.heap.size ≤ k) ∧ w0.heap.size ≤ b ∧ w0.heap.size ≤ cb
  aj : AJ c ⟨q, L, t, ep, []⟩ k
  nms : ∀ s, (q s).isSome = true → s.size ≤ 1000
  tms : ∀ e ∈ L, now < e.tm ∧ e.tm ≤ 1099511627776
  cnt : u ≤ ul ∧ (0 ≤ ep ∧ ep ≤ (el : Int))
  bel : Below w0.heap.size w0 w
theorem EJ.same {w0 w w' : World} {p b cb : Nat} {F : Nat → Prop} {d c : Cf} {q : ByteArray → Option Ho} {L : List (Ev ByteArray)} {t u : Nat} {ep : Int} {k : ByteArray → Int} {now : Int} {m ul el : Nat} (h : EJ w0 w p b cb F d c q L t u ep k now m ul el) (hs : Step (fun _ => False) w w') : EJ w0 w' p b cb F d c q L t u ep k now m ul el :=
  ⟨h.her.same hs, h.mp.keep hs (fun h => h), h.cfg.keep hs (fun h => h), h.sep, h.low, h.aj, h.nms, h.tms, h.cnt, h.bel.trans (hs.below h.bel.size (fun _ h => h.elim))⟩
end Go.Proofs.Ytghiklaeenhljaa.Hea

/- health: what each act of HealthEpochs leaves. Own work of this seat. -/
namespace Go.Proofs.Ytghiklaeenhljaa.Hea
open Go.RowKit Go.Proofs.Ytghiklaeenhljaa.Kit Go.Proofs.Ytghiklaeenhljaa.PStewardRamps Go.Proofs.YtghiklaeenhljaaW.PrintWords Go.Proofs.Ytghiklaeenhljaa.AgP Go.Proofs.Ytghiklaeenhljaa
set_option linter.unusedVariables false
set_option linter.unusedSimpArgs false
section
variable {w0 w w1 w2 : World} {p b cb : Nat} {F F' : Nat → Prop} {d c : Cf} {q q' : ByteArray → Option Ho} {L L' : List (Ev ByteArray)} {t u t' u' : Nat} {ep ep' : Int} {k : ByteArray → Int} {now : Int} {m m' ul el ul' el' : Nat} {s : ByteArray}
theorem EJ.act (h : EJ w0 w p b cb F d c q L t u ep k now m ul el) (hs : Step F w w1) (hn : ∀ j, F' j → F j ∨ w.heap.size ≤ j) (hI : HeR w1 p F' c q' L' t' u' ep') (hM : MInt w2 b m' (mupd k s 0)) (hs2 : Step (· = b) w1 w2)
    (haj : AJ c ⟨q', L', t', ep', []⟩ (clrK k s)) (hnm : ∀ s, (q' s).isSome = true → s.size ≤ 1000) (htm : ∀ e ∈ L', now < e.tm ∧ e.tm ≤ 1099511627776) (hcn : u' ≤ ul' ∧ (0 ≤ ep' ∧ ep' ≤ (el' : Int))) :
    EJ w0 w2 p b cb F' d c q' L' t' u' ep' (mupd k s 0) now m' ul' el' := by
  have hb := h.mp.lt
  have hcb := h.cfg.lt
  have hFb : ¬ F' b := fun hh => (hn _ hh).elim h.sep.1 (fun h => by omega)
  have hFc : ¬ F' cb := fun hh => (hn _ hh).elim h.sep.2.1 (fun h => by omega)
  have hz := h.bel.size
  have hz1 := hs.size
  have hbel1 := h.bel.trans (hs.below h.bel.size h.low.1)
  exact ⟨hI.keep hs2 (fun j hj e => hFb (e ▸ hj)), hM, (h.cfg.keep hs h.sep.2.1).keep hs2 (fun e => h.sep.2.2 e.symm), ⟨hFb, hFc, h.sep.2.2⟩, ⟨fun j hj => (hn j hj).elim (h.low.1 j) (fun h => by omega), h.low.2⟩, haj, hnm, htm, hcn, hbel1.trans (hs2.below hbel1.size (fun j e => e ▸ h.low.2.1))⟩
theorem EJ.put (h : EJ w0 w p b cb F d c q L t u ep k now m ul el) (hc : CfOk c) (hs : Step F w w1) (hn : ∀ j, F' j → F j ∨ w.heap.size ≤ j) {pb : Pb} (hI : HeR w1 p F' c (setQ q s (some ⟨pb, false⟩)) (timL L t s (AgStr.clipT now + c.every)).1 t' (u + 2) ep') (hM : MInt w2 b m' (mupd k s 0)) (hs2 : Step (· = b) w1 w2)
    (hss : s.size ≤ 1000) (hnow : 0 ≤ now ∧ now ≤ 100000) (hep : ep ≤ ep' ∧ ep' ≤ ep + 1) :
    EJ w0 w2 p b cb F' d c (setQ q s (some ⟨pb, false⟩)) (timL L t s (AgStr.clipT now + c.every)).1 t' (u + 2) ep' (mupd k s 0) now m' (ul + 2) (el + 1) := by
  have hcl : AgStr.clipT now = now := by unfold AgStr.clipT; omega
  have hev := hc.1
  have hcn := h.cnt
  rw [hcl] at hI ⊢
  refine h.act hs hn hI hM hs2 (aj_put h.aj s pb (by omega) _ _ _) (fun r hr => ?_) (fun e he => ?_) ⟨by omega, by omega, by omega⟩
  · unfold setQ at hr
    by_cases e : r = s
    · rw [e]; exact hss
    · rw [if_neg e] at hr
      exact h.nms r hr
  · rcases timL_mem he with ⟨_, e2⟩ | ⟨e1, _⟩
    · omega
    · exact h.tms e e1
theorem EJ.del (h : EJ w0 w p b cb F d c q L t u ep k now m ul el) (hs : Step F w w1) (hI : HeR w1 p F c (setQ q s none) (dropL L s) t u (ep + 1)) (hM : MInt w2 b m' (mupd k s 0)) (hs2 : Step (· = b) w1 w2) :
    EJ w0 w2 p b cb F d c (setQ q s none) (dropL L s) t u (ep + 1) (mupd k s 0) now m' (ul + 2) (el + 1) := by
  have hcn := h.cnt
  refine h.act hs (fun _ h => .inl h) hI hM hs2 (aj_del h.aj s _ _ _) (fun r hr => ?_) (fun e he => h.tms e (mem_drop.1 he).1) ⟨by omega, by omega, by omega⟩
  unfold setQ at hr
  by_cases e : r = s
  · rw [if_pos e] at hr; cases hr
  · rw [if_neg e] at hr
    exact h.nms r hr
theorem mupd_id {k : ByteArray → Int} {s : ByteArray} (h : k s = 0) : mupd k s 0 = k := by
  funext y
  unfold mupd
  split
  · rename_i e; rw [e, h]
  · rfl
theorem EJ.put0 (h : EJ w0 w p b cb F d c q L t u ep k now m ul el) (hk : k s = 0) (hs : Step (fun _ => False) w w1) (hM : MInt w2 b m' (mupd k s 0)) (hs2 : Step (· = b) w1 w2) :
    EJ w0 w2 p b cb F d c q L t u ep (mupd k s 0) now m' (ul + 2) (el + 1) := by
  have hcn := h.cnt
  rw [mupd_id hk] at hM ⊢
  have := h.act (s := s) (k := k) (hs.mono (fun _ _ h => h.elim)) (fun _ h => .inl h) (h.her.same hs) (by rw [mupd_id hk]; exact hM) hs2 (aj_same h.aj (fun y => (congrFun (mupd_id hk) y)) _ _ _) h.nms h.tms (ul' := ul + 2) (el' := el + 1) ⟨by omega, by omega, by omega⟩
  rw [mupd_id hk] at this
  exact this
theorem EJ.up (h : EJ w0 w p b cb F d c q L t u ep k now m ul el) (h1 : ul ≤ ul') (h2 : el ≤ el') : EJ w0 w p b cb F d c q L t u ep k now m ul' el' := by
  have hcn := h.cnt
  exact ⟨h.her, h.mp, h.cfg, h.sep, h.low, h.aj, h.nms, h.tms, ⟨by omega, by omega, by omega⟩, h.bel⟩
theorem EJ.k0 (h : EJ w0 w p b cb F d c q L t u ep k now m ul el) (hq : ∀ x, q s = some x → x.waits = false) : k s = 0 := by
  refine Classical.byContradiction fun hk => ?_
  obtain ⟨x, g1, g2⟩ := (h.aj.asked s).1 hk
  rw [hq x g1] at g2
  cases g2
theorem EJ.k1 (h : EJ w0 w p b cb F d c q L t u ep k now m ul el) {x : Ho} (hq : q s = some x) (hw : x.waits = true) : k s ≠ 0 := (h.aj.asked s).2 ⟨x, hq, hw⟩
end
/-- What a result adds to the epoch is how many events it tells. -/
theorem resE_len (r : Pb × Bool) (s : ByteArray) (at_ ep : Int) : (if r.2 then ep + 1 else ep) = ep + ((resE r s at_).length : Int) ∧ (resE r s at_).length ≤ 1 := by
  unfold resE
  split <;> simp
theorem upV_len (q : ByteArray → Option Ho) (s : ByteArray) : (upV q s).length = 3 := by
  unfold upV
  split <;> rfl
theorem viewsC_at {q : ByteArray → Option Ho} : ∀ {l : List ByteArray} {i : Nat}, i < l.length → ∃ s u si, (viewsC q l)[i * 3]? = some (.string s) ∧ (viewsC q l)[i * 3 + 1]? = some (.bool u) ∧ (viewsC q l)[i * 3 + 2]? = some (.int .i64 si)
  | [], i, h => absurd h (Nat.not_lt_zero _)
  | x :: l, 0, _ => by
    have e : viewsC q (x :: l) = upV q x ++ viewsC q l := by simp [viewsC]
    rw [e]
    unfold upV
    cases q x with
    | none => exact ⟨_, _, _, rfl, rfl, rfl⟩
    | some y => exact ⟨_, _, _, rfl, rfl, rfl⟩
  | x :: l, i + 1, h => by
    have e : viewsC q (x :: l) = upV q x ++ viewsC q l := by simp [viewsC]
    obtain ⟨s, u, si, h0, h1, h2⟩ := viewsC_at (q := q) (l := l) (i := i) (by simpa using h)
    have hl := upV_len q x
    refine ⟨s, u, si, ?_, ?_, ?_⟩ <;> rw [e, List.getElem?_append_right (by omega), hl]
    · rw [show (i + 1) * 3 - 3 = i * 3 by omega]; exact h0
    · rw [show (i + 1) * 3 + 1 - 3 = i * 3 + 1 by omega]; exact h1
    · rw [show (i + 1) * 3 + 2 - 3 = i * 3 + 2 by omega]; exact h2
end Go.Proofs.Ytghiklaeenhljaa.Hea
