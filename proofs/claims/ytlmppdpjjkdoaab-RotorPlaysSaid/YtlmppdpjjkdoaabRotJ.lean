/- rotor: what the document's functions over marks are, in plain lists. Own work of this seat. -/
import Derived.Test.YtlmppdpjjkdoaabRotI
import Derived.Test.YtlmppdpjjkdoaabPRotorPlaysx2
namespace Go.Proofs.Ytlmppdpjjkdoaab.Rot
open Go.RowKit Go.Proofs.Ytlmppdpjjkdoaab.Kit Go.Proofs.Ytlmppdpjjkdoaab.PRotorPlays Go.Proofs.YtlmppdpjjkdoaabW.PrintWords Go.Proofs.YtlmppdpjjkdoaabW.PrintLast Go.Proofs.YtlmppdpjjkdoaabW.PrintMore
set_option linter.unusedVariables false
set_option linter.unusedSimpArgs false

/-- A name's mark. -/
def ofP (l : List S49) (s : ByteArray) : Int := match l.find? (fun m => decide (m.f0 = s)) with
  | some m => m.f1
  | none => 0
def setP (l : List S49) (s : ByteArray) (n : Int) : List S49 := ⟨s, n⟩ :: l.filter fun m => !decide (m.f0 = s)
def keepP (l : List S49) (ns : List ByteArray) : List S49 := l.filter fun m => inn ns m.f0
theorem ofP_filter (l : List S49) (p : ByteArray → Bool) (s : ByteArray) : ofP (l.filter fun m => p m.f0) s = if p s = true then ofP l s else 0 := by
  induction l with
  | nil => simp [ofP]
  | cons m r ih =>
    by_cases hm : m.f0 = s
    · by_cases hp : p s = true
      · have : p m.f0 = true := by rw [hm]; exact hp
        simp [ofP, List.filter_cons, this, hm, hp]
      · have h1 : p m.f0 = false := by rw [hm]; simpa using hp
        have h2 : ((m :: r).filter fun m => p m.f0) = r.filter fun m => p m.f0 := by simp [List.filter_cons, h1]
        rw [h2, ih, if_neg hp, if_neg hp]
    · have h3 : ofP (m :: r) s = ofP r s := by simp [ofP, List.find?_cons, hm]
      cases hp : p m.f0 with
      | true =>
        have h2 : ((m :: r).filter fun m => p m.f0) = m :: r.filter fun m => p m.f0 := by simp [List.filter_cons, hp]
        have h4 : ofP (m :: r.filter fun m => p m.f0) s = ofP (r.filter fun m => p m.f0) s := by simp [ofP, List.find?_cons, hm]
        rw [h2, h4, h3, ih]
      | false =>
        have h2 : ((m :: r).filter fun m => p m.f0) = r.filter fun m => p m.f0 := by simp [List.filter_cons, hp]
        rw [h2, h3, ih]
theorem ofP_set (l : List S49) (s : ByteArray) (n : Int) (t : ByteArray) : ofP (setP l s n) t = upd (ofP l) s n t := by
  unfold setP upd
  by_cases h : t = s
  · subst h; simp [ofP]
  · rw [if_neg h]
    have h1 : ofP (⟨s, n⟩ :: l.filter fun m => !decide (m.f0 = s)) t = ofP (l.filter fun m => !decide (m.f0 = s)) t := by simp [ofP, List.find?_cons, Ne.symm h]
    rw [h1, ofP_filter l (fun x => !decide (x = s)) t, if_pos (by simp [h])]
theorem ofP_keep (l : List S49) (ns : List ByteArray) (s : ByteArray) : ofP (keepP l ns) s = keepF ns (ofP l) s := by
  unfold keepP keepF
  exact ofP_filter l (inn ns) s

theorem rd49 {l : List S49} {i : Nat} (h : i < l.length) : rd_T49 l (i : Int) = l[i] := by
  unfold rd_T49
  rw [Int.toNat_natCast, List.getD_eq_getElem?_getD, List.getElem?_eq_getElem h]; rfl
theorem rd45 {l : List S45} {i : Nat} (h : i < l.length) : rd_T45 l (i : Int) = l[i] := by
  unfold rd_T45
  rw [Int.toNat_natCast, List.getD_eq_getElem?_getD, List.getElem?_eq_getElem h]; rfl
theorem toList_eq {t s : ByteArray} : t.toList = s.toList ↔ t = s := by
  constructor
  · intro h
    have := sbytes_eqv t s
    rw [h] at this
    simpa using this.symm
  · intro h; rw [h]

theorem of_loop (l : List S49) (s : ByteArray) (hl : l.length ≤ 1000000) : ∀ (d i : Nat), i + d = l.length → ofP (l.drop i) s = ofP l s → stewardref15_Of.l0 (d + 1) s l (l.length : Int) (i : Int) = some (ofP l s)
  | 0, i, hd, hi => by
    unfold stewardref15_Of.l0
    rw [if_neg (by omega), ← hi, List.drop_eq_nil_of_le (by omega)]
    rfl
  | d + 1, i, hd, hi => by
    have hil : i < l.length := by omega
    have hw : wrap64 ((i : Int) + 1) = ((i + 1 : Nat) : Int) := by unfold wrap64; omega
    have hdr : l.drop i = l[i] :: l.drop (i + 1) := List.drop_eq_getElem_cons hil
    unfold stewardref15_Of.l0
    rw [if_pos (by omega), if_pos (by omega), if_pos (by omega), rd49 hil, hw]
    by_cases h : (l[i]).f0 = s
    · rw [if_pos (toList_eq.2 h), ← hi, hdr]
      generalize l.drop (i + 1) = r
      simp [ofP, List.find?_cons, h]
    · rw [if_neg (fun e => h (toList_eq.1 e))]
      refine of_loop l s hl d (i + 1) (by omega) ?_
      rw [← hi, hdr]
      generalize l.drop (i + 1) = r
      simp [ofP, List.find?_cons, h]
theorem of_is (l : List S49) (s : ByteArray) (hl : l.length ≤ 1000000) : stewardref15_Of.f (l.length + 1) l s = some (ofP l s) := of_loop l s hl l.length 0 (by omega) rfl

theorem set_loop (l : List S49) (s : ByteArray) (hl : l.length ≤ 1000000) : ∀ (d i : Nat) (o : List S49), i + d = l.length → o.length ≤ i + 1 → stewardref15_Set.l0 (d + 1) s o l (l.length : Int) (i : Int) = some (o ++ (l.drop i).filter fun m => !decide (m.f0 = s))
  | 0, i, o, hd, ho => by
    unfold stewardref15_Set.l0
    rw [if_neg (by omega), List.drop_eq_nil_of_le (by omega)]
    simp
  | d + 1, i, o, hd, ho => by
    have hil : i < l.length := by omega
    have hw : wrap64 ((i : Int) + 1) = ((i + 1 : Nat) : Int) := by unfold wrap64; omega
    have hdr : l.drop i = l[i] :: l.drop (i + 1) := List.drop_eq_getElem_cons hil
    unfold stewardref15_Set.l0
    rw [if_pos (by omega), if_pos (by omega), if_pos (by omega), rd49 hil, hw, hdr]
    by_cases h : (l[i]).f0 = s
    · rw [if_pos (toList_eq.2 h), set_loop l s hl d (i + 1) o (by omega) (by omega)]
      generalize l.drop (i + 1) = r
      simp [List.filter_cons, h]
    · rw [if_neg (fun e => h (toList_eq.1 e)), if_pos (by omega), set_loop l s hl d (i + 1) _ (by omega) (by rw [List.length_append]; simp; omega)]
      generalize l.drop (i + 1) = r
      simp [List.filter_cons, h]
theorem set_is (l : List S49) (s : ByteArray) (n : Int) (hl : l.length ≤ 1000000) : stewardref15_Set.f (l.length + 1) l s n = some (setP l s n) := by
  have := set_loop l s hl l.length 0 [⟨s, n⟩] (by omega) (by simp)
  rw [List.drop_zero] at this
  exact this
theorem setP_length (l : List S49) (s : ByteArray) (n : Int) : (setP l s n).length ≤ l.length + 1 := by
  unfold setP
  rw [List.length_cons]
  have := List.length_filter_le (fun m : S49 => !decide (m.f0 = s)) l
  omega

theorem names_loop (l : List S45) (hl : l.length ≤ 1000000) : ∀ (d i : Nat) (o : List ByteArray), i + d = l.length → o.length = i → stewardlaw15_names.l0 (d + 1) o l (l.length : Int) (i : Int) = some (o ++ (l.drop i).map (·.f0))
  | 0, i, o, hd, ho => by
    unfold stewardlaw15_names.l0
    rw [if_neg (by omega), List.drop_eq_nil_of_le (by omega)]
    simp
  | d + 1, i, o, hd, ho => by
    have hil : i < l.length := by omega
    have hw : wrap64 ((i : Int) + 1) = ((i + 1 : Nat) : Int) := by unfold wrap64; omega
    have hdr : l.drop i = l[i] :: l.drop (i + 1) := List.drop_eq_getElem_cons hil
    unfold stewardlaw15_names.l0
    rw [if_pos (by omega), if_pos (by omega), if_pos (by omega), if_pos (by omega), rd45 hil, hw, hdr, names_loop l hl d (i + 1) _ (by omega) (by rw [List.length_append]; simp; omega)]
    generalize l.drop (i + 1) = r
    simp
theorem names_is (l : List S45) (hl : l.length ≤ 1000000) : stewardlaw15_names.f (l.length + 1) l = some (l.map (·.f0)) := by
  have := names_loop l hl l.length 0 [] (by omega) rfl
  rw [List.drop_zero] at this
  exact this

/-- An entry, its name cut. -/
def fw (x : S45) : S45 := ⟨if (x.f0.size : Int) > 12 then x.f0.extract 0 12 else x.f0, x.f1⟩
theorem cut12 (s : ByteArray) : stewardlaw01_Cut.f s 12 = some (if (s.size : Int) > 12 then s.extract 0 12 else s) := by
  unfold stewardlaw01_Cut.f
  by_cases h : (s.size : Int) > 12
  · rw [if_pos h, if_pos (by omega), if_pos (by omega), if_pos h]; rfl
  · rw [if_neg h, if_neg h]
theorem few8_loop (l : List S45) : ∀ (d i : Nat) (o : List S45), i + d = min 8 l.length → o.length = i → stewardlaw15_Few.l0 (d + 1) l 8 o (i : Int) = some (o ++ ((l.take 8).drop i).map fw)
  | 0, i, o, hd, ho => by
    unfold stewardlaw15_Few.l0
    have hnil : (l.take 8).drop i = [] := List.drop_eq_nil_of_le (by rw [List.length_take]; omega)
    rw [hnil]
    by_cases h : (i : Int) < (l.length : Int)
    · rw [if_pos h, if_neg (by omega)]; simp
    · rw [if_neg h]; simp
  | d + 1, i, o, hd, ho => by
    have hil : i < l.length := by omega
    have hw : wrap64 ((i : Int) + 1) = ((i + 1 : Nat) : Int) := by unfold wrap64; omega
    have hdr : (l.take 8).drop i = l[i] :: (l.take 8).drop (i + 1) := by
      rw [List.drop_eq_getElem_cons (by rw [List.length_take]; omega)]
      congr 1
      exact List.getElem_take
    unfold stewardlaw15_Few.l0
    rw [if_pos (by omega), if_pos (by omega), if_pos (by omega), rd45 hil, cut12, Option.bind_some, if_pos (by omega), hw, hdr, few8_loop l d (i + 1) _ (by omega) (by rw [List.length_append]; simp; omega)]
    generalize (l.take 8).drop (i + 1) = r
    simp [fw]
theorem few8_is (l : List S45) : stewardlaw15_Few.f (min 8 l.length + 1) l 8 = some ((l.take 8).map fw) := by
  have := few8_loop l (min 8 l.length) 0 [] (by omega) rfl
  rw [List.drop_zero] at this
  exact this
theorem fw_short (x : S45) : (fw x).f0.size ≤ 12 := by
  unfold fw
  by_cases h : (x.f0.size : Int) > 12
  · simp only [if_pos h, ByteArray.size_extract]; omega
  · simp only [if_neg h]; omega

theorem rdstr {l : List ByteArray} {i : Nat} (h : i < l.length) : rdOf ByteArray.empty l (i : Int) = l[i] := by
  unfold rdOf
  rw [Int.toNat_natCast, List.getD_eq_getElem?_getD, List.getElem?_eq_getElem h]; rfl
theorem inn_none {ns : List ByteArray} {v : ByteArray} (h : ∀ j (hj : j < ns.length), ns[j] ≠ v) : inn ns v = false := by
  cases hi : inn ns v with
  | false => rfl
  | true =>
    obtain ⟨j, hj, e⟩ := List.mem_iff_getElem.1 (inn_iff.1 hi)
    exact absurd e (h j hj)
theorem keep_inner (l : List S49) (ns : List ByteArray) (nm : ByteArray) (n : Int) (i N : Nat) (o R : List S49) (hns : ns.length ≤ 1000000) (hi : i < 1000000) (ho : o.length ≤ i) (hA : ∀ K, N ≤ K → ∀ o' : List S49, o'.length ≤ i + 1 → stewardref15_Keep.l0 K ns o' l (l.length : Int) ((i + 1 : Nat) : Int) = some (o' ++ R)) :
    ∀ (c j : Nat), j + c = ns.length → (∀ j' (h : j' < ns.length), j' < j → ns[j'] ≠ nm) → ∀ K, N + c + 1 ≤ K → stewardref15_Keep.l1 K ns o l (l.length : Int) (i : Int) ns (ns.length : Int) (j : Int) nm n = some ((o ++ if inn ns nm = true then [⟨nm, n⟩] else []) ++ R)
  | 0, j, hc, hno, K, hK => by
    obtain ⟨K, rfl⟩ : ∃ k, K = k + 1 := ⟨K - 1, by omega⟩
    have hw : wrap64 ((i : Int) + 1) = ((i + 1 : Nat) : Int) := by unfold wrap64; omega
    have hin : inn ns nm = false := inn_none (fun j' h => hno j' h (by omega))
    unfold stewardref15_Keep.l1
    rw [if_neg (by omega), hw, hA K (by omega) o (by omega), hin]
    simp
  | c + 1, j, hc, hno, K, hK => by
    obtain ⟨K, rfl⟩ : ∃ k, K = k + 1 := ⟨K - 1, by omega⟩
    have hjl : j < ns.length := by omega
    have hw : wrap64 ((i : Int) + 1) = ((i + 1 : Nat) : Int) := by unfold wrap64; omega
    have hwj : wrap64 ((j : Int) + 1) = ((j + 1 : Nat) : Int) := by unfold wrap64; omega
    unfold stewardref15_Keep.l1
    rw [if_pos (by omega), if_pos (by omega), if_pos (by omega), rdstr hjl]
    by_cases h : ns[j] = nm
    · rw [if_pos (toList_eq.2 h), if_pos (by omega), hw, hA K (by omega) _ (by rw [List.length_append]; simp; omega), if_pos (inn_iff.2 (h ▸ List.getElem_mem hjl))]
    · rw [if_neg (fun e => h (toList_eq.1 e)), hwj]
      exact keep_inner l ns nm n i N o R hns hi ho hA c (j + 1) (by omega) (fun j' hj' hlt => by
        by_cases e : j' = j
        · subst e; exact h
        · exact hno j' hj' (by omega)) K (by omega)
theorem keep_loop (l : List S49) (ns : List ByteArray) (hl : l.length ≤ 100000) (hns : ns.length ≤ 1000) : ∀ (d i : Nat) (o : List S49), i + d = l.length → o.length ≤ i → ∀ K, d * (ns.length + 2) + 1 ≤ K → stewardref15_Keep.l0 K ns o l (l.length : Int) (i : Int) = some (o ++ keepP (l.drop i) ns)
  | 0, i, o, hd, ho, K, hK => by
    obtain ⟨K, rfl⟩ : ∃ k, K = k + 1 := ⟨K - 1, by omega⟩
    unfold stewardref15_Keep.l0
    rw [if_neg (by omega), List.drop_eq_nil_of_le (by omega)]
    simp [keepP]
  | d + 1, i, o, hd, ho, K, hK => by
    have hm : (d + 1) * (ns.length + 2) = d * (ns.length + 2) + (ns.length + 2) := Nat.succ_mul _ _
    obtain ⟨K, rfl⟩ : ∃ k, K = k + 1 := ⟨K - 1, by omega⟩
    have hil : i < l.length := by omega
    have hdr : l.drop i = l[i] :: l.drop (i + 1) := List.drop_eq_getElem_cons hil
    unfold stewardref15_Keep.l0
    rw [if_pos (by omega), if_pos (by omega), if_pos (by omega), rd49 hil]
    have := keep_inner l ns (l[i]).f0 (l[i]).f1 i (d * (ns.length + 2) + 1) o (keepP (l.drop (i + 1)) ns) (by omega) (by omega) ho (fun K hK o' ho' => keep_loop l ns hl hns d (i + 1) o' (by omega) ho' K hK) ns.length 0 (by omega) (fun j' h hlt => by omega) K (by omega)
    rw [show ((0 : Nat) : Int) = 0 from rfl] at this
    rw [this, hdr]
    generalize l.drop (i + 1) = r
    cases hi : inn ns (l[i]).f0 <;> simp [keepP, List.filter_cons, hi]
theorem keep_is (l : List S49) (ns : List ByteArray) (hl : l.length ≤ 100000) (hns : ns.length ≤ 1000) : stewardref15_Keep.f (l.length * (ns.length + 2) + 1) l ns = some (keepP l ns) := by
  have := keep_loop l ns hl hns l.length 0 [] (by omega) (by simp) _ (Nat.le_refl _)
  rw [List.drop_zero] at this
  exact this
end Go.Proofs.Ytlmppdpjjkdoaab.Rot
