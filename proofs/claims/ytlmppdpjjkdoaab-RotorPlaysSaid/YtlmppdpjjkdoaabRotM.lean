/- rotor's law: the entries, names and marks that a call draws. Own work of this seat. -/
import Derived.Test.YtlmppdpjjkdoaabRotL
namespace Go.Proofs.Ytlmppdpjjkdoaab.Rot
open Go.RowKit Go.Proofs.Ytlmppdpjjkdoaab.Kit Go.Proofs.Ytlmppdpjjkdoaab.PRotorPlays Go.Proofs.YtlmppdpjjkdoaabW.PrintWords Go.Proofs.YtlmppdpjjkdoaabW.PrintLast Go.Proofs.YtlmppdpjjkdoaabW.PrintMore
set_option linter.unusedVariables false
set_option linter.unusedSimpArgs false

/-- The entries as pairs. -/
def es (r : List S45) : List (ByteArray × Int) := r.map fun x => (x.f0, x.f1)
theorem es_length (r : List S45) : (es r).length = r.length := List.length_map _

theorem row_of_R {w : World} {base : Nat} {ok : Nat → Prop} {v : Value} {r : List S45} (h : Kd.R k45 45 w base ok v r) : ∃ A c, v = .slice A r.length c ∧ r.length ≤ c ∧ Kd.C k45 w A r.length r ∧ ERow w A (es r) ∧ ∀ k, blockOf A = some k → base ≤ k := by
  obtain ⟨A, c, hv, hle, hC⟩ := Kd.R_reads h
  obtain ⟨inner, ho⟩ := Kd.R_own h
  have hbase : ∀ k, blockOf A = some k → base ≤ k := fun k hk => by
    refine own_base ho k ?_
    rw [hv]
    cases A with
    | none => cases hk
    | some a => exact hk
  refine ⟨A, c, hv, hle, hC, ?_, hbase⟩
  rcases ho.2 with ⟨e, h0⟩ | ⟨g, cap, cur, e, _⟩
  · left
    have : r = [] := List.eq_nil_of_length_eq_zero h0
    rw [this]; rfl
  · right
    rw [hv] at e
    injection e with e1 e2 e3
    subst e1
    refine ⟨g, 0, rfl, fun i x hi => ?_⟩
    unfold es at hi
    rw [List.getElem?_map] at hi
    obtain ⟨y, hy, rfl⟩ := Option.map_eq_some_iff.1 hi
    have hlt := (List.getElem?_eq_some_iff.1 hy).1
    obtain ⟨ad, e, c1, c2⟩ := at_T45 hC (i : Int) (by omega) (by omega)
    obtain rfl := Option.some.inj e
    have hrd : rd_T45 r (i : Int) = y := by
      unfold rd_T45
      rw [Int.toNat_natCast, List.getD_eq_getElem?_getD, hy]; rfl
    rw [hrd, Int.toNat_natCast] at c1 c2
    rw [addr_add] at c1 c2
    exact ⟨c1, c2⟩

theorem nrow_of {w : World} {base : Nat} {v : Value} {ns : List ByteArray} (h : Kd.R Kd.string 9 w base (fun _ => True) v ns) : ∃ A c, v = .slice A ns.length c ∧ ns.length ≤ c ∧ Kd.C Kd.string w A ns.length ns ∧ NRow w A ns.length c ns ∧ ∀ k, blockOf A = some k → base ≤ k := by
  obtain ⟨A, c, hv, hle, hC⟩ := Kd.R_reads h
  obtain ⟨inner, ho⟩ := Kd.R_own h
  have hbase : ∀ k, blockOf A = some k → base ≤ k := fun k hk => by
    refine own_base ho k ?_
    rw [hv]
    cases A with
    | none => cases hk
    | some a => exact hk
  refine ⟨A, c, hv, hle, hC, ⟨by rw [List.length_map]; exact (Nat.mul_one _).symm, ?_⟩, hbase⟩
  rcases ho.2 with ⟨e, h0⟩ | ⟨g, cap, cur, e, _, hg, hcs, hsz, htk⟩
  · left
    rw [e] at hv
    injection hv with e1 e2 e3
    exact ⟨e1.symm, e3.symm, h0, by rw [List.eq_nil_of_length_eq_zero h0]; rfl⟩
  · right
    rw [hv] at e
    injection e with e1 e2 e3
    subst e1
    subst e3
    subst hv
    have hs1 : Kd.string.sz = 1 := rfl
    rw [hs1] at htk
    refine ⟨g, cur, rfl, hg, hle, by omega, fun j u hj => ?_⟩
    rw [List.getElem?_map] at hj
    obtain ⟨y, hy, rfl⟩ := Option.map_eq_some_iff.1 hj
    obtain ⟨hlt, rfl⟩ := List.getElem?_eq_some_iff.1 hy
    have hcl := (Kd.R_cell ByteArray.empty h (j : Int) (by omega) (by omega)).1
    rw [rdstr hlt, Int.toNat_natCast] at hcl
    unfold World.cell? at hcl
    rw [hg] at hcl
    simpa using hcl

theorem C45_far {w w' : World} {A : Option Addr} {r : List S45} {F : Nat → Prop} (h : Kd.C k45 w A r.length r) (hs : Step F w w') (hF : ∀ k, blockOf A = some k → ¬ F k) : Kd.C k45 w' A r.length r := by
  refine ⟨h.1, h.2.1, fun hn => ?_⟩
  obtain ⟨ad, rfl, hc⟩ := h.2.2 hn
  refine ⟨ad, rfl, fun j p hj => ?_⟩
  obtain ⟨cs, hl, hK, hcell⟩ := hc j p hj
  refine ⟨cs, hl, hK, fun i u hi => ?_⟩
  have := hcell i u hi
  unfold World.cell? at this ⊢
  have e : (ad.add (j * Kd.sz k45 + i)).block = ad.block := by unfold Addr.add; split <;> rfl
  rw [e] at this ⊢
  have hlt : ad.block < w.heap.size := by
    by_cases hlt : ad.block < w.heap.size
    · exact hlt
    · rw [Array.getElem?_eq_none (by omega)] at this
      cases this
  rw [hs.block ad.block hlt (hF _ rfl)]
  exact this

/-- The names of entries. -/
theorem names_calls {w : World} {A : Option Addr} {c : Nat} {r : List S45} (hC : Kd.C k45 w A r.length r) (hc : r.length ≤ c) (hl : r.length ≤ 1000000) :
    Calls Try.prog 29 #[.slice A r.length c] w fun e w' => ∃ A' c', e = .returned (.slice A' (r.map (·.f0)).length c') ∧ (r.map (·.f0)).length ≤ c' ∧ Kd.C Kd.string w' A' (r.map (·.f0)).length (r.map (·.f0)) ∧ NRow w' A' (r.map (·.f0)).length c' (r.map (·.f0)) ∧ (∀ k, blockOf A' = some k → w.heap.size ≤ k) ∧ Step (fun _ => False) w w' :=
  (stewardlaw15_names.calls _ A c r _ w hC hc (names_is r hl)).mono fun e w' h => by
    obtain ⟨v, hv, hR, hb⟩ := h
    obtain ⟨A', c', rfl, hM, hC', hN, hf⟩ := nrow_of hR
    exact ⟨A', c', hv, hM, hC', hN, hf, Step.of_below hb⟩

/-- The document's Keep. -/
theorem rkeep_calls {w : World} {A : Option Addr} {c : Nat} {x : List S49} (h : MRow w A c x) (hx : x.length ≤ 100000) {B : Option Addr} {cB : Nat} {ns : List ByteArray} (hB : Kd.C Kd.string w B ns.length ns) (hcB : ns.length ≤ cB) (hns : ns.length ≤ 1000) :
    Calls Try.prog 30 #[.slice A x.length c, .slice B ns.length cB] w fun e w' => ∃ A' c', e = .returned (.slice A' (keepP x ns).length c') ∧ MRow w' A' c' (keepP x ns) ∧ (∀ k, blockOf A' = some k → w.heap.size ≤ k) ∧ Step (fun _ => False) w w' :=
  (stewardref15_Keep.calls _ A c x B cB ns _ w h.C h.le hB hcB (keep_is x ns hx hns)).mono fun e w' h' => by
    obtain ⟨v, hv, hR, hb⟩ := h'
    obtain ⟨A', c', rfl, hM, hf⟩ := mrow_of hR (keepP_nodup h.nd ns) (keepP_short h.sh ns)
    exact ⟨A', c', hv, hM, hf, Step.of_below hb⟩

/-- The few entries of a call. -/
def fewl (l : List S45) : List S45 := (l.take 8).map fw
theorem fewl_length (l : List S45) : (fewl l).length ≤ 8 := by unfold fewl; rw [List.length_map, List.length_take]; omega
theorem fewl_short (l : List S45) : Short (es (fewl l)) := fun e he => by
  unfold es fewl at he
  obtain ⟨y, hy, rfl⟩ := List.mem_map.1 he
  obtain ⟨x, hx, rfl⟩ := List.mem_map.1 hy
  have := fw_short x
  show (fw x).f0.size ≤ 1000
  omega
theorem few8_calls {w : World} {A : Option Addr} {c : Nat} {l : List S45} (hC : Kd.C k45 w A l.length l) (hc : l.length ≤ c) :
    Calls Try.prog 16 #[.slice A l.length c, .int .i64 8] w fun e w' => ∃ A' c', e = .returned (.slice A' (fewl l).length c') ∧ (fewl l).length ≤ c' ∧ Kd.C k45 w' A' (fewl l).length (fewl l) ∧ ERow w' A' (es (fewl l)) ∧ (∀ k, blockOf A' = some k → w.heap.size ≤ k) ∧ Step (fun _ => False) w w' :=
  (stewardlaw15_Few.calls _ A c l 8 _ w hC hc (few8_is l)).mono fun e w' h => by
    obtain ⟨v, hv, hR, hb⟩ := h
    obtain ⟨A', c', rfl, hM, hC', hE, hf⟩ := row_of_R hR
    exact ⟨A', c', hv, hM, hC', hE, hf, Step.of_below hb⟩

set_option maxRecDepth 100000 in
set_option maxHeartbeats 1000000 in
/-- Own of no entry. -/
theorem own0_calls {w : World} {A : Option Addr} {c : Nat} :
    Calls Try.prog 31 #[.slice A 0 c] w fun e w' => e = .returned (.slice none 0 0) ∧ Step (fun _ => False) w w' := by
  go_enter Try.func31, Try.ntmps31
  go_wp2
  go_loopw [3, 8] (fun v3 v8 wr => v8 = .int .i64 0 ∧ v3 = .slice none 0 0 ∧ Step (fun _ => False) w wr) (fun _ v _ => 0)
  case atStart => exact ⟨rfl, rfl, Step.refl _ _⟩
  case round =>
    obtain ⟨rfl, rfl, hS⟩ := hrel
    go_wp2
    go_ret
    exact ⟨rfl, hS⟩

set_option maxRecDepth 100000 in
set_option maxHeartbeats 1000000 in
/-- The document's Pick of nobody. -/
theorem rpick0_calls {w : World} {A E : Option Addr} {n c cE : Nat} :
    Calls Try.prog 32 #[.slice A n c, .slice E 0 cE] w fun e w' => e = .returned (.tuple #[.slice A n c, .string ⟨#[]⟩, .bool false]) ∧ Step (fun _ => False) w w' := by
  have HO := ref_once_calls (w := w) (A := E) (c := cE) (l := []) (.inl rfl) (by simp)
  go_enter Try.func32, Try.ntmps32
  go_upto_region 2 with (go_at_call 42; refine HO.mono ?_; rintro e1 w1 ⟨B, n1, cB, rfl, hES, hBf, hb1⟩)
  have hn : ([] : List (ByteArray × Int)).length = n1 := hES.1
  obtain rfl : 0 = n1 := hn
  have hs1 : Step (fun _ => False) w w1 := Step.of_below hb1
  go_wp2
  refine bodyPost_ret (results_tmp3 rfl _ _ _) rfl ?_
  exact ⟨rfl, hs1⟩
end Go.Proofs.Ytlmppdpjjkdoaab.Rot
