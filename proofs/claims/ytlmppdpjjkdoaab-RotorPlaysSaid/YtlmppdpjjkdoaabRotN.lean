/- rotor's law: a call of both. Own work of this seat. -/
import Derived.Test.YtlmppdpjjkdoaabRotM
namespace Go.Proofs.Ytlmppdpjjkdoaab.Rot
open Go.RowKit Go.Proofs.Ytlmppdpjjkdoaab.Kit Go.Proofs.Ytlmppdpjjkdoaab.PRotorPlays Go.Proofs.YtlmppdpjjkdoaabW.PrintWords Go.Proofs.YtlmppdpjjkdoaabW.PrintLast Go.Proofs.YtlmppdpjjkdoaabW.PrintMore
set_option linter.unusedVariables false
set_option linter.unusedSimpArgs false

theorem keepF_bd {B : Int} {f : ByteArray → Int} (h : Bd B f) (h0 : 0 ≤ B) (ns : List ByteArray) : Bd (B + 1048560) (keepF ns f) := fun s => by
  unfold keepF
  have := h s
  split <;> omega
theorem pkf_bd {B : Int} {f : ByteArray → Int} (h : Bd B f) (h0 : 0 ≤ B) {m : List (ByteArray × Int)} (hs : Short m) (hl : m.length ≤ 8) : Bd (B + 1048560) (pkf f m) := fun s => by
  obtain ⟨h1, h2, h3, _⟩ := pks_bd h h0 m hs m.length (Nat.le_refl _)
  have a := h1 s
  have b := h1 (pks f m m.length).best
  unfold pkf
  show -(B + 1048560) ≤ upd (pks f m m.length).f (pks f m m.length).best ((pks f m m.length).f (pks f m m.length).best - (pks f m m.length).all) s ∧ upd (pks f m m.length).f (pks f m m.length).best ((pks f m m.length).f (pks f m m.length).best - (pks f m m.length).all) s ≤ B + 1048560
  unfold upd
  have : (m.length : Int) ≤ 8 := by omega
  split <;> omega
theorem upd_eq (f : ByteArray → Int) (s : ByteArray) (v : Int) : (fun t => if t = s then v else f t) = upd f s v := rfl

/-- What a call of both leaves. -/
def DoPost (w : World) (p b N : Nat) (x : List S49) (B : Int) (e : Ending) (w' : World) : Prop :=
  ∃ A' c' x' N', e = .returned (.tuple #[.slice A' x'.length c', .bool true]) ∧ RAt w' p b N' (ofP x') ∧ MRow w' A' c' x' ∧ N' ≤ N + 9 ∧ x'.length ≤ x.length + 9 ∧ Bd (B + 1048560) (ofP x') ∧ (∀ k, blockOf A' = some k → k ≠ b) ∧ Step (· = b) w w'

/-- Both Picks of somebody. -/
theorem rpick_same {w : World} {A : Option Addr} {c : Nat} {x : List S49} {E : Option Addr} {cE : Nat} {l : List (ByteArray × Int)} (h : MRow w A c x) (hx : x.length ≤ 100000) (hE : ERow w E l) (hl : l.length ≤ 8) (hl0 : l ≠ []) (hB : Bd 1000000000000 (ofP x)) (hsh : Short l) :
    Calls Try.prog 32 #[.slice A x.length c, .slice E l.length cE] w fun e w' => ∃ A' c' x', e = .returned (.tuple #[.slice A' x'.length c', .string (pkn (ofP x) (dd l l.length)), .bool true]) ∧ MRow w' A' c' x' ∧ x'.length ≤ x.length + 9 ∧ ofP x' = pkf (ofP x) (dd l l.length) ∧ (∀ k, blockOf A' = some k → w.heap.size ≤ k) ∧ Step (fun _ => False) w w' := by
  refine (rpick_calls (cE := cE) h hx hE (by omega) hl0 hB hsh).mono ?_
  rintro e w' ⟨A', c', x', rfl, hM, hlen, hof, hf, hs⟩
  obtain ⟨e1, e2⟩ := ref_same (x := x) rfl (dd_nodup l l.length) (dd_ne hl0)
  refine ⟨A', c', x', ?_, hM, by omega, hof.trans e2, hf, hs⟩
  rw [e1]

set_option maxRecDepth 100000 in
set_option maxHeartbeats 4000000 in
theorem do_calls {w : World} {p b N : Nat} {A : Option Addr} {c : Nat} {x : List S49} {B : Int} (h : RAt w p b N (ofP x)) (hM : MRow w A c x) (hAb : ∀ k, blockOf A = some k → k ≠ b) (hN : N ≤ 50000) (hx : x.length ≤ 50000) (hB : Bd B (ofP x)) (hB0 : 0 ≤ B) (hB1 : B ≤ 500000000000)
    {keep : Bool} {L : Option Addr} {cL : Nat} {l : List S45} (hC : Kd.C k45 w L l.length l) (hc : l.length ≤ cL) :
    Calls Try.prog 15 #[.pointer (some ⟨p, 0, none⟩), .slice A x.length c, .agg #[.bool keep, .slice L l.length cL]] w (DoPost w p b N x B) := by
  have hbl := h.map.lt
  go_enter Try.func15, Try.ntmps15
  go_upto_region 1 with (fail)
  refine alloc_next (cs := [.bool keep, .slice L l.length cL]) ?_
  intro w1 hV hs1
  have hF := few8_calls (C45_far hC hs1 (fun _ _ h => h)) hc
  have h8 := fewl_length l
  have hsh := fewl_short l
  generalize fewl l = r at *
  have hw1 := hs1.size
  have hMb : ∀ {W}, Step (· = b) w W → MRow W A c x := fun hW => hM.far hW (fun k hk e => hAb k hk e)
  have h1 := h.keep hs1 (fun h => h) (fun h => h)
  have hEb0 : ∀ {E : Option Addr}, (∀ k, blockOf E = some k → w1.heap.size ≤ k) → ∀ k, blockOf E = some k → k ≠ b := fun hEf k hk e => by
    have := hEf k hk
    omega
  have hFew := Lib.hid hF
  have c1 := hV.cell (i := 1) rfl
  clear hF
  cases keep with
  | true =>
    obtain ⟨ns, hns0⟩ : ∃ ns, r.map (·.f0) = ns := ⟨_, rfl⟩
    have hnl : ns.length ≤ 8 := by rw [← hns0, List.length_map]; exact h8
    have HN0 := fun W (E : Option Addr) cE (hcE : r.length ≤ cE) (hW : Kd.C k45 W E r.length r) => names_calls hW hcE (by omega)
    rw [hns0] at HN0
    have HN := Lib.hid HN0
    have hof : ofP (keepP x ns) = keepF ns (ofP x) := funext fun s => ofP_keep x ns s
    have hkl : (keepP x ns).length ≤ x.length := List.length_filter_le _ _
    have hkb : Bd (B + 1048560) (keepF ns (ofP x)) := keepF_bd hB hB0 ns
    clear HN0 hns0
    go_wp2_with (first | (go_at_call 16; refine hFew.out.mono ?_; rintro e2 w2 ⟨E, cE, rfl, hcE, hCE, hE, hEf, hs2⟩; have h2 := h1.keep hs2 (fun h => h) (fun h => h); have hst2 : Step (· = b) w w2 := (hs1.same hs2).mono (fun _ _ h => h.elim); have hz2 := hs2.size; have c0 := (hV.keep hs2 (fun h => h)).cell (i := 0) rfl) | (go_at_call 29; refine (HN.out w2 E cE hcE hCE).mono ?_; rintro e3 w3 ⟨A3, c3, rfl, hc3, hC3, hN3, hf3, hs3⟩; have hz3 := hs3.size) | (go_at_call 28; refine (keep_calls (h2.keep hs3 (fun h => h) (fun h => h)) hN3 (by omega) (fun k hk e => by have := hf3 k hk; omega)).mono ?_; rintro e4 w4 ⟨rfl, h4, hs4⟩; have hst4 := (hs3.mono (G := (· = b)) (fun _ _ h => h.elim)).same hs4) | (go_at_call 29; refine (HN.out w4 E cE hcE (C45_far hCE hst4 (fun k hk e => hEb0 hEf k hk e))).mono ?_; rintro e5 w5 ⟨A5, c5, rfl, hc5, hC5, hN5, hf5, hs5⟩; have hst5 := hst4.same (hs5.mono (G := (· = b)) (fun _ _ h => h.elim))) | (go_at_call 30; refine (rkeep_calls (hMb (hst2.same hst5)) (by omega) hC5 hc5 (by omega)).mono ?_; rintro e6 w6 ⟨A6, c6, rfl, hM6, hf6, hs6⟩))
    go_ret2
    have h6 := (h4.keep hs5 (fun h => h) (fun h => h)).keep hs6 (fun h => h) (fun h => h)
    have hz5 := (hst2.same hst5).size
    rw [← hof] at h6 hkb
    exact ⟨A6, c6, keepP x ns, N, rfl, h6, hM6, by omega, by omega, hkb, fun k hk e => (by have := hf6 k hk; omega), (hst2.same hst5).same (hs6.mono (fun _ _ h => h.elim))⟩
  | false =>
    have hMw : MRow w A c x := hM
    obtain ⟨m, hm0⟩ : ∃ m, dd (es r) (es r).length = m := ⟨_, rfl⟩
    have hel := es_length r
    by_cases hr0 : r.length = 0
    · obtain rfl : r = [] := List.eq_nil_of_length_eq_zero hr0
      go_wp2_with (first | (go_at_call 16; refine hFew.out.mono ?_; rintro e2 w2 ⟨E, cE, rfl, hcE, hCE, hE, hEf, hs2⟩; have h2 := h1.keep hs2 (fun h => h) (fun h => h); have hst2 : Step (· = b) w w2 := (hs1.same hs2).mono (fun _ _ h => h.elim); have hz2 := hs2.size; have c0 := (hV.keep hs2 (fun h => h)).cell (i := 0) rfl) | (go_at_call 31; refine own0_calls.mono ?_; rintro e3 w3 ⟨rfl, hs3⟩) | (go_at_call 27; refine (pick0_calls (h2.keep hs3 (fun h => h) (fun h => h))).mono ?_; rintro e4 w4 ⟨rfl, hs4⟩) | (go_at_call 32; refine rpick0_calls.mono ?_; rintro e5 w5 ⟨rfl, hs5⟩))
      go_ret2
      have hst := (((hs1.same hs2).same hs3).same hs4).same hs5
      exact ⟨A, c, x, N, rfl, h.keep hst (fun h => h) (fun h => h), hM.still hst, by omega, by omega, fun s => (by have := hB s; omega), hAb, hst.mono (fun _ _ h => h.elim)⟩
    · have hr1 : es r ≠ [] := fun e => hr0 (by rw [← hel, e]; rfl)
      have hB1 : Bd 1000000000000 (ofP x) := fun s => by
        have := hB s
        omega
      have HOwn0 := fun (W : World) (E : Option Addr) (cE : Nat) (hW : ERow W E (es r)) => own_calls (c := cE) hW (by omega)
      have HPk0 := fun (W : World) (E : Option Addr) (cE : Nat) (hP : RAt W p b N (ofP x)) (hW : ERow W E (es r)) => pick_gen (c := cE) hP hW hr1 hsh (by omega) (by omega) hB1
      have HRk0 := fun (W : World) (E : Option Addr) (cE : Nat) (hP : MRow W A c x) (hW : ERow W E (es r)) => rpick_same (cE := cE) hP (by omega) hW (by omega) hr1 hB1 hsh
      have hmsh : Short m := fun e he => hsh e (dd_mem (es r) (es r).length (Nat.le_refl _) e (by rw [hm0]; exact he))
      have hml : m.length ≤ 8 := by have := dd_length (es r) (es r).length; rw [hm0] at this; omega
      have hkb := pkf_bd hB hB0 hmsh hml
      rw [hm0, hel] at HPk0
      rw [hm0, hel] at HRk0
      rw [hel] at HOwn0
      have HOwn := Lib.hid HOwn0
      have HPk := Lib.hid HPk0
      have HRk := Lib.hid HRk0
      clear HOwn0 HPk0 HRk0
      generalize es r = ee at *
      generalize pkn (ofP x) m = bn at *
      obtain ⟨f', hf'0⟩ : ∃ f', pkf (ofP x) m = f' := ⟨_, rfl⟩
      rw [hf'0] at HPk HRk hkb
      have hf' := Lib.hid hf'0
      clear hf'0
      obtain ⟨N', hN'⟩ : ∃ N', N + m.length + 1 = N' := ⟨_, rfl⟩
      rw [hN'] at HPk
      have hb1 : (bn.toList == bn.toList) = true := by simp
      go_wp2_with (first | (go_at_call 16; refine hFew.out.mono ?_; rintro e2 w2 ⟨E, cE, rfl, hcE, hCE, hE, hEf, hs2⟩; have h2 := h1.keep hs2 (fun h => h) (fun h => h); have hst2 : Step (fun _ => False) w w2 := hs1.same hs2; have hz2 := hs2.size; have c0 := (hV.keep hs2 (fun h => h)).cell (i := 0) rfl) | (go_at_call 31; refine (HOwn.out w2 E cE hE).mono ?_; rintro e3 w3 ⟨A3, c3, rfl, hE3, hf3, hb3⟩; have hs3 : Step (fun _ => False) w2 w3 := Step.of_below hb3) | (go_at_call 27; refine (HPk.out w3 A3 c3 (h2.keep hs3 (fun h => h) (fun h => h)) hE3).mono ?_; rintro e4 w4 ⟨rfl, h4, hs4⟩; have hst4 := (hs3.mono (G := (· = b)) (fun _ _ h => h.elim)).same hs4) | (go_at_call 32; refine (HRk.out w4 E cE (hMb ((hst2.mono (fun _ _ h => h.elim)).same hst4)) (hE.keep hst4 (fun k hk e => hEb0 hEf k hk e))).mono ?_; rintro e5 w5 ⟨A5, c5, x5, rfl, hM5, hl5, hof5, hf5, hs5⟩))
      go_ret2
      have h5 := h4.keep hs5 (fun h => h) (fun h => h)
      have hst5 : Step (· = b) w w4 := (hst2.mono (fun _ _ h => h.elim)).same hst4
      have hz5 := hst5.size
      rw [← hof5] at h5 hkb
      exact ⟨A5, c5, x5, N', rfl, h5, hM5, by omega, hl5, hkb, fun k hk e => (by have := hf5 k hk; omega), hst5.same (hs5.mono (fun _ _ h => h.elim))⟩
end Go.Proofs.Ytlmppdpjjkdoaab.Rot
