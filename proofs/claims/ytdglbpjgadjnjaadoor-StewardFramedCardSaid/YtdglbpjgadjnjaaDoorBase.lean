/- Openers of arguments of whatever kinds (slices of structs, strings, numbers, slices), and how arguments are read again behind a call. Own work of this seat; no condition. -/
import Derived.Test.YtdglbpjgadjnjaaDoorWWords
import Derived.ChangeArms
import Derived.Deep.Slices
import Derived.ChangeOld
import Derived.Carry
import Derived.SizedLaws
import Derived.DataReads
import Derived.OpenShut
namespace Go.Proofs.YtdglbpjgadjnjaaDoor.Base
open Go.RowKit Go.Proofs.YtdglbpjgadjnjaaDoorW.PrintWords Go.Deep

section
variable {H : Type} (enc : TypeId × Value → H) (P : Program) (W : World) (base : Nat) (spare : Nat → Bool) (held : Bool)

/-- Whatever is read at type t is an element of kind d, and G holds of it. -/
def Opens {α : Type} (d : Kd α) (G : α → Prop) (t : TypeId) : Prop :=
  P.cellsOf t = d.sz ∧ ∀ (n : Nat) (cs : List Value) (y : DataW H × List MemPlace), DataW.trod enc P W base spare held n t cs = some y → ∃ p, d.K W p cs ∧ G p

/-- Likewise of a struct's fields from offset o on. -/
def FOpens {α : Type} (d : Kd α) (G : α → Prop) (fs : List Field) (o : Nat) : Prop :=
  ∀ (n : Nat) (cs : List Value), cs.length = o + d.sz → (∀ f ∈ fs, ∃ y, DataW.trod enc P W base spare held n f.type ((cs.drop f.offset).take (P.cellsOf f.type)) = some y) → ∃ p, d.K W p (cs.drop o) ∧ G p
end

section
variable {H : Type} {enc : TypeId × Value → H} {P : Program} {W : World} {base : Nat} {spare : Nat → Bool} {held : Bool}

theorem opens_int {k : IntKind} {t : TypeId} (ht : P.underlying t = some (.int k)) (hc : P.cellsOf t = 1) : Opens enc P W base spare held (Kd.int k) (fun n => (Lit.int k n).wf = true) t :=
  ⟨hc, fun n cs y h => by
    obtain ⟨m, rfl, _, hw⟩ := DataW.trod_int ht h
    exact ⟨m, rfl, hw⟩⟩
theorem opens_bool {t : TypeId} (ht : P.underlying t = some .bool) (hc : P.cellsOf t = 1) : Opens enc P W base spare held Kd.bool (fun _ => True) t :=
  ⟨hc, fun n cs y h => by
    obtain ⟨b, rfl, _⟩ := DataW.trod_bool ht h
    exact ⟨b, rfl, trivial⟩⟩
theorem opens_string {t : TypeId} (ht : P.underlying t = some .string) (hc : P.cellsOf t = 1) : Opens enc P W base spare held Kd.string (fun s => s.size ≤ maxLen) t :=
  ⟨hc, fun n cs y h => by
    obtain ⟨s, rfl, _, hs⟩ := DataW.trod_string ht h
    exact ⟨s, rfl, hs⟩⟩

/-- From 'for each i below n there is a p' to a list. -/
theorem list_of {α : Type} {Q : Nat → α → Prop} : ∀ (n : Nat), (∀ i, i < n → ∃ p, Q i p) → ∃ xs : List α, xs.length = n ∧ ∀ i p, xs[i]? = some p → Q i p
  | 0, _ => ⟨[], rfl, fun i p h => by simp at h⟩
  | n + 1, h => by
    obtain ⟨xs, hl, hx⟩ := list_of n (fun i hi => h i (by omega))
    obtain ⟨p, hp⟩ := h n (by omega)
    refine ⟨xs ++ [p], by simp [hl], fun i q hq => ?_⟩
    rcases Nat.lt_or_ge i xs.length with hi | hi
    · rw [List.getElem?_append_left hi] at hq
      exact hx i q hq
    · rw [List.getElem?_append_right hi] at hq
      have : i - xs.length = 0 := by
        rcases Nat.eq_zero_or_pos (i - xs.length) with h0 | h0
        · exact h0
        · rw [List.getElem?_eq_none (by simp; omega)] at hq
          cases hq
      rw [this] at hq
      simp at hq
      subst hq
      rw [show i = n by omega]
      exact hp

theorem opens_row {α : Type} {d : Kd α} {G : α → Prop} {t e : TypeId} {fuel : Nat} {cs : List Value} {y : DataW H × List MemPlace} (ht : P.underlying t = some (.slice e)) (hd : Opens enc P W base spare held d G e) (h : DataW.trod enc P W base spare held fuel t cs = some y) :
    ∃ (A : Option Addr) (c : Nat) (xs : List α), cs = [.slice A xs.length c] ∧ xs.length ≤ c ∧ d.C W A xs.length xs ∧ (∀ x ∈ xs, G x) := by
  rcases open_slice ht h with ⟨rfl, rfl⟩ | ⟨a, len, cap, m, n, D, Pl, rfl, hb, hl, hm, hmm, rfl, hx⟩
  · exact ⟨none, 0, [], rfl, Nat.le_refl _, ⟨rfl, by simp, fun h0 => by simp at h0⟩, fun x hx => by simp at hx⟩
  · have hlm : len ≤ m := by rw [hmm]; split <;> omega
    obtain ⟨xs, hxl, hxs⟩ := list_of (Q := fun i p => ∃ cs', cs'.length = P.cellsOf e ∧ (∀ j u, cs'[j]? = some u → W.cell? ((a.add (i * P.cellsOf e)).add j) = some u) ∧ d.K W p cs' ∧ G p) len (fun i hi => by
      obtain ⟨cs', h1, h2⟩ := hx i (by omega)
      obtain ⟨_, h3, h4⟩ := World.cells?_some h1
      obtain ⟨p, hp, hg⟩ := hd.2 _ _ _ h2
      exact ⟨p, cs', h3, fun j u hu => by
        have hj := (List.getElem?_eq_some_iff.1 hu).1
        rw [h4 j (by omega)]; exact hu, hp, hg⟩)
    unfold maxLen at hm
    refine ⟨some a, cap, xs, by rw [hxl], by omega, ⟨rfl, by omega, fun _ => ⟨a, rfl, fun j p hj => ?_⟩⟩, fun x hx => ?_⟩
    · obtain ⟨cs', h3, h4, hp, _⟩ := hxs j p hj
      refine ⟨cs', by rw [h3, hd.1], hp, fun i u hu => ?_⟩
      rw [← hd.1, ← Deep.add_add]
      exact h4 i u hu
    · obtain ⟨j, hj⟩ := List.getElem?_of_mem hx
      obtain ⟨_, _, _, _, hg⟩ := hxs j x hj
      exact hg

theorem opens_slice {α : Type} {d : Kd α} {G : α → Prop} {t e : TypeId} (ht : P.underlying t = some (.slice e)) (hc : P.cellsOf t = 1) (hd : Opens enc P W base spare held d G e) :
    Opens enc P W base spare held (Kd.slice e d) (fun xs => ∀ x ∈ xs, G x) t :=
  ⟨hc, fun n cs y h => by
    obtain ⟨A, c, xs, rfl, h1, h2, h3⟩ := opens_row ht hd h
    exact ⟨xs, ⟨A, c, rfl, h1, h2⟩, h3⟩⟩

theorem opens_iso {α β : Type} {d : Kd α} {G : α → Prop} {t : TypeId} (f : β → α) (g : α → β) (hfg : ∀ x, f (g x) = x) (h : Opens enc P W base spare held d G t) :
    Opens enc P W base spare held (Kd.iso d f) (fun x => G (f x)) t :=
  ⟨h.1, fun n cs y hy => by
    obtain ⟨p, hp, hg⟩ := h.2 n cs y hy
    refine ⟨g p, ?_, ?_⟩
    · show d.K W (f (g p)) cs
      rw [hfg]; exact hp
    · show G (f (g p))
      rw [hfg]; exact hg⟩

theorem fopens_last {α : Type} {d : Kd α} {G : α → Prop} {f : Field} {o : Nat} (ho : f.offset = o) (h : Opens enc P W base spare held d G f.type) : FOpens enc P W base spare held d G [f] o := by
  intro n cs hl hf
  obtain ⟨y, hy⟩ := hf f List.mem_cons_self
  obtain ⟨p, hp, hg⟩ := h.2 _ _ _ hy
  rw [ho, h.1, List.take_of_length_le (by rw [List.length_drop]; omega)] at hp
  exact ⟨p, hp, hg⟩

theorem fopens_cons {α β : Type} {d : Kd α} {d' : Kd β} {G : α → Prop} {G' : β → Prop} {f : Field} {fs : List Field} {o : Nat} (ho : f.offset = o) (h : Opens enc P W base spare held d G f.type) (h' : FOpens enc P W base spare held d' G' fs (o + d.sz)) :
    FOpens enc P W base spare held (Kd.pair d d') (fun x => G x.1 ∧ G' x.2) (f :: fs) o := by
  intro n cs hl hf
  obtain ⟨y, hy⟩ := hf f List.mem_cons_self
  obtain ⟨p, hp, hg⟩ := h.2 _ _ _ hy
  obtain ⟨q, hq, hg'⟩ := h' n cs (by rw [hl]; show o + (d.sz + d'.sz) = _; omega) (fun f' hf' => hf f' (List.mem_cons_of_mem _ hf'))
  rw [ho, h.1] at hp
  refine ⟨(p, q), ⟨_, _, ?_, hp, hq⟩, hg, hg'⟩
  rw [← List.drop_drop, List.take_append_drop]

theorem opens_struct {α : Type} {d : Kd α} {G : α → Prop} {t : TypeId} {fs : Array Field} (ht : P.underlying t = some (.struct fs)) (hc : P.cellsOf t = d.sz) (h : FOpens enc P W base spare held d G fs.toList 0) :
    Opens enc P W base spare held d G t :=
  ⟨hc, fun n cs y hy => by
    obtain ⟨xs, m, rfl, rfl, hl, hlen, hf⟩ := DataW.trod_struct ht hy
    have := h m cs (by omega) (fun f hf' => by
      obtain ⟨i, hi⟩ := List.getElem?_of_mem hf'
      rw [Array.getElem?_toList] at hi
      have hlt : i < xs.length := by
        have := (Array.getElem?_eq_some_iff.1 hi).1
        omega
      exact ⟨xs[i], by rw [hf i f hi, List.getElem?_eq_getElem hlt]⟩)
    simpa using this⟩

theorem okWide_array {r : Reach} {m n : Nat} {t e : TypeId} {v : Value} (ht : P.underlying t = some (.array n e)) (h : Value.okWide P W r m t v) : ∃ cs, v = .agg cs ∧ cs.size = P.cellsOf t := by
  simp only [Value.okWide, ht] at h
  obtain ⟨cs, h1, h2, _⟩ := h
  exact ⟨cs, h1, h2⟩

/-- An array of bytes by value. -/
theorem open_key {t e : TypeId} {n fuel : Nat} {cs : Array Value} {y : DataW H × List MemPlace} (ht : P.underlying t = some (.array n e)) (he : P.underlying e = some (.int .u8)) (hc : P.cellsOf e = 1 ∧ P.cellsOf t = n) (h : DataW.trod enc P W base spare held fuel t (Value.agg cs).cells.toList = some y) :
    ∃ key : List UInt8, key.length = n ∧ cs = (key.map fun b => Value.int .u8 (b.toNat : Int)).toArray := by
  have hcs : (Value.agg cs).cells.toList = cs.toList := rfl
  rw [hcs] at h
  obtain ⟨xs, m, _, _, hl, hxl, hx⟩ := DataW.trod_array ht h
  rw [hc.2] at hl
  obtain ⟨key, hkl, hkey⟩ := list_of (Q := fun i (b : UInt8) => cs.toList[i]? = some (.int .u8 (b.toNat : Int))) n (fun i hi => by
    have h1 := hx i hi
    rw [hc.1, List.getElem?_eq_getElem (by omega)] at h1
    obtain ⟨k, hk, _, hw⟩ := DataW.trod_int he h1
    have hb : 0 ≤ k ∧ k ≤ 255 := by
      simp [Lit.wf, IntKind.min, IntKind.max, IntKind.signed, IntKind.bits] at hw
      omega
    refine ⟨UInt8.ofNat k.toNat, ?_⟩
    have h2 : (cs.toList.drop (i * 1)).take 1 = [cs.toList[i]'(by omega)] := by
      rw [Nat.mul_one, List.drop_eq_getElem_cons (by omega)]
      rfl
    rw [h2] at hk
    rw [List.getElem?_eq_getElem (by omega)]
    simp only [List.cons.injEq, and_true] at hk
    rw [hk, UInt8.toNat_ofNat']
    congr 2
    omega)
  refine ⟨key, hkl, ?_⟩
  apply Array.ext'
  apply List.ext_getElem?
  intro i
  rw [List.getElem?_map]
  rcases Nat.lt_or_ge i n with hi | hi
  · rw [hkey i (key[i]'(by omega)) (List.getElem?_eq_getElem (by omega)), List.getElem?_eq_getElem (by omega)]
    rfl
  · rw [List.getElem?_eq_none (by omega), List.getElem?_eq_none (by omega)]
    rfl

/-- The arguments read behind the call as they read ahead of it. -/
theorem trodAll_keep (hl : laidOutB P = true) {W' : World} (bel : Below W.heap.size W W') : ∀ {ts : List TypeId} {vs : List Value} {ds : List (DataW H)} {ps : List MemPlace}, (∀ t ∈ ts, P.readableRec t = true ∧ t < P.types.size) →
    DataW.TrodAll enc P W 0 (fun _ => true) true ts vs ds ps → DataW.TrodAll enc P W' 0 (fun b => decide (b < W.heap.size)) true ts vs ds ps
  | [], [], [], ps, _, h => h
  | [], [], _ :: _, _, _, h => h.elim
  | [], _ :: _, _, _, _, h => h.elim
  | _ :: _, [], _, _, _, h => h.elim
  | _ :: _, _ :: _, [], _, _, h => h.elim
  | t :: ts, v :: vs, d :: ds, ps, ht, h => by
    have hlt := h.lt
    obtain ⟨p, q, h1, h2, rfl⟩ := h
    exact ⟨p, q, Below.trod hl (ht t List.mem_cons_self).1 (ht t List.mem_cons_self).2 h1 bel (fun x hx => hlt x (List.mem_append_left _ hx)), trodAll_keep hl bel (fun t' ht' => ht t' (List.mem_cons_of_mem _ ht')) h2, rfl⟩

end
end Go.Proofs.YtdglbpjgadjnjaaDoor.Base
