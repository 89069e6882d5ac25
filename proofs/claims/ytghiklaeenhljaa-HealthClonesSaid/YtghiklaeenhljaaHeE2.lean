/- law 23: same, is. Own work of this seat. -/
import Derived.Test.YtghiklaeenhljaaHeE1
import Derived.Deep.QuietTactic
import Derived.BigQuiet
import Derived.Deep.RegionHeld3
namespace Go.Proofs.Ytghiklaeenhljaa.HeD
open Go.RowKit Go.Proofs.Ytghiklaeenhljaa.Kit Go.Proofs.Ytghiklaeenhljaa.It Go.Proofs.Ytghiklaeenhljaa.Hea Go.Proofs.Ytghiklaeenhljaa.AgP Go.Proofs.YtghiklaeenhljaaW.PrintWords Go.Proofs.Ytghiklaeenhljaa
set_option linter.unusedVariables false
set_option linter.unusedSimpArgs false

set_option maxRecDepth 100000 in
theorem neqD (x0 : Int) (x1 : ByteArray) (x2 : Int) (w : World) : (binOp .neq 135 (.agg #[.int .i64 x0, .string x1, .int .i64 x2]) (.agg #[.int .i64 x0, .string x1, .int .i64 x2])).run Try.prog w = .ok (.bool false) w := by
  have h : (Op.equalIn 10000 135 (.agg #[.int .i64 x0, .string x1, .int .i64 x2]) (.agg #[.int .i64 x0, .string x1, .int .i64 x2])).run Try.prog w = .ok true w :=
    eqA_of (d := 9999) Try.underlying135 (by kernel_rfl) (eqf_cons (r := true) (s := true) rfl rfl rfl (eq_int 9998 _ _) (eqf_cons (r := true) (s := true) rfl rfl rfl (eq_str 9998 _ _) (eqf_last (r := true) rfl rfl rfl (eq_int 9998 _ _))))
  simp only [binOp]
  simp [Op.equal, Op.maxDepth, h]
set_option maxRecDepth 100000 in
set_option maxHeartbeats 2000000 in
theorem same_calls {w : World} {A B : Option Addr} {n cA cB : Nat} {l : List Evn} (hA : ESeg w A n cA l) (hB : DSeg w B n cB l) (hn : n ≤ 1000000) :
    Calls Try.prog 45 #[.slice A n cA, .slice B n cB] w fun e w' => e = .returned (.bool true) ∧ Step (fun _ => False) w w' := by
  have hlen := hA.len
  have HA := Lib.hid hA
  have HB := Lib.hid hB
  clear hA hB
  go_enter Try.func45, Try.ntmps45
  go_wp2
  go_loopw [13] (fun v13 wr => ∃ (i : Nat), v13 = .int .i64 (i : Int) ∧ i ≤ n ∧ Step (fun _ => False) w wr) (fun v _ => n - (intOf v).toNat)
  case atStart => exact ⟨0, rfl, Nat.zero_le _, Step.refl _ _⟩
  case round =>
    obtain ⟨i, rfl, hi, hst⟩ := hrel
    by_cases hin : i < n
    · have hin' : ((i : Int) < (n : Int)) := by omega
      obtain ⟨gA, rfl⟩ := FSeg.isSome HA.out (by omega)
      obtain ⟨gB, rfl⟩ := FSeg.isSome HB.out (by omega)
      obtain ⟨e0, e1, e2⟩ := evcs_at (List.getElem?_eq_getElem (show i < l.length by omega))
      have hA := HA.out.keep hst (fun _ _ h => h)
      have hB := HB.out.keep hst (fun _ _ h => h)
      have a0 := FSeg.cell hA e0
      have a1 := FSeg.cell hA e1
      have a2 := FSeg.cell hA e2
      have b0 := FSeg.cell hB e0
      have b1 := FSeg.cell hB e1
      have b2 := FSeg.cell hB e2
      generalize (l[i]'(show i < l.length by omega)) = x at *
      obtain ⟨k, s, tm⟩ := x
      simp only at a0 a1 a2 b0 b1 b2
      have hne := neqD k s tm
      clear hA hB e0 e1 e2 HA HB hlen
      go_upto_region 6 with (fail)
      go_region
      all_goals
        go_wp2
        go_roundw
        case rel => exact ⟨i + 1, by first | rfl | simp, by omega, by first | exact hst.drew | exact hst.same ((Step.refl _ _).drew)⟩
        case measure =>
          simp only [intOf]
          omega
    · have hin' : ¬ ((i : Int) < (n : Int)) := by omega
      clear hlen
      go_wp2
      go_ret
      exact ⟨rfl, hst⟩

theorem viewsC_get {q : ByteArray → Option Ho} {l : List ByteArray} {i : Nat} {s : ByteArray} (hi : l[i]? = some s) : ∀ (j : Nat) (v : Value), (upV q s)[j]? = some v → (viewsC q l)[i * 3 + j]? = some v := by
  have hl := (List.getElem?_eq_some_iff.1 hi).1
  have hlen : ∀ m : List ByteArray, (viewsC q m).length = m.length * 3 := fun m => by
    induction m with
    | nil => rfl
    | cons y m ih =>
      have e : viewsC q (y :: m) = upV q y ++ viewsC q m := rfl
      rw [e, List.length_append, upV_len, ih, List.length_cons]
      omega
  have e1 : viewsC q l = viewsC q (l.take i) ++ (upV q s ++ viewsC q (l.drop (i + 1))) := by
    have h2 : l[i] = s := (List.getElem?_eq_some_iff.1 hi).2
    have h3 : l = l.take i ++ (s :: l.drop (i + 1)) := by rw [← h2, ← List.drop_eq_getElem_cons hl, List.take_append_drop]
    have h4 := congrArg (viewsC q) h3
    unfold viewsC at h4 ⊢
    rw [List.flatMap_append] at h4
    exact h4
  have e2 : (viewsC q (l.take i)).length = i * 3 := by rw [hlen, List.length_take, Nat.min_eq_left (Nat.le_of_lt hl)]
  intro j v hv
  have hj := (List.getElem?_eq_some_iff.1 hv).1
  rw [e1, List.getElem?_append_right (by omega), e2, Nat.add_sub_cancel_left, List.getElem?_append_left hj]
  exact hv
theorem mt_at {q : ByteArray → Option Ho} {l : List Oe} (h : Mt q l) {i : Nat} {x : Oe} (hi : l[i]? = some x) : q x.nm = some ⟨x.pb, x.waits⟩ := by
  have hl := (List.getElem?_eq_some_iff.1 hi).1
  have hx := (List.getElem?_eq_some_iff.1 hi).2
  have h1 := getO_hit (s := x.nm) hl (by rw [hx]) (fun j hj hji e => by
    have h2 := List.pairwise_iff_getElem.1 h.srt j i hj hl hji
    rw [hx] at h2
    exact ltB_ne h2 e)
  rw [hx, h.get] at h1
  cases hq : q x.nm with
  | none => rw [hq] at h1; cases h1
  | some y =>
    rw [hq] at h1
    obtain ⟨x0, x1, x2⟩ := x
    obtain ⟨y0, y1⟩ := y
    simp at h1 ⊢
    exact h1
/-- Both of them: health, and the document's value. -/
structure Bo (w : World) (p : Nat) (F : Nat → Prop) (c : Cf) (q : ByteArray → Option Ho) (L : List (Ev ByteArray)) (t u : Nat) (ep : Int) (A : Option Addr) (cA : Nat) (l : List Oe) (B : Option Addr) (cB : Nat) : Prop where
  her : HeR w p F c q L t u ep
  ro : ORd w A l.length l
  ri : IRd w B L.length (its L)
  le : L.length ≤ cB
  mt : Mt q l
  sep : (∀ k, blockOf A = some k → ¬ F k) ∧ (∀ k, blockOf B = some k → ¬ F k)
  lt : (∀ k, blockOf A = some k → k < w.heap.size) ∧ (∀ k, blockOf B = some k → k < w.heap.size)
  aj : ∃ kk, AJ c ⟨q, L, t, ep, []⟩ kk
  nms : ∀ s, (q s).isSome = true → s.size ≤ 1000
  tms : ∀ e ∈ L, e.tm ≤ 1099511627776
theorem Bo.same {w w' : World} {p : Nat} {F : Nat → Prop} {c : Cf} {q : ByteArray → Option Ho} {L : List (Ev ByteArray)} {t u : Nat} {ep : Int} {A : Option Addr} {cA : Nat} {l : List Oe} {B : Option Addr} {cB : Nat} (h : Bo w p F c q L t u ep A cA l B cB) (hs : Step (fun _ => False) w w') : Bo w' p F c q L t u ep A cA l B cB :=
  ⟨h.her.same hs, h.ro.same hs, h.ri.same hs, h.le, h.mt, h.sep, ⟨fun k hk => Nat.lt_of_lt_of_le (h.lt.1 k hk) hs.size, fun k hk => Nat.lt_of_lt_of_le (h.lt.2 k hk) hs.size⟩, h.aj, h.nms, h.tms⟩
theorem Bo.keep {w w' : World} {p : Nat} {F G : Nat → Prop} {c : Cf} {q : ByteArray → Option Ho} {L : List (Ev ByteArray)} {t u : Nat} {ep : Int} {A : Option Addr} {cA : Nat} {l : List Oe} {B : Option Addr} {cB : Nat} (h : Bo w p F c q L t u ep A cA l B cB) (hs : Step G w w') (h1 : ∀ k, F k → ¬ G k) (h2 : ∀ k, blockOf A = some k → ¬ G k) (h3 : ∀ k, blockOf B = some k → ¬ G k) : Bo w' p F c q L t u ep A cA l B cB :=
  ⟨h.her.keep hs h1, h.ro.keep hs h2, h.ri.keep hs h3, h.le, h.mt, h.sep, ⟨fun k hk => Nat.lt_of_lt_of_le (h.lt.1 k hk) hs.size, fun k hk => Nat.lt_of_lt_of_le (h.lt.2 k hk) hs.size⟩, h.aj, h.nms, h.tms⟩
end Go.Proofs.Ytghiklaeenhljaa.HeD
