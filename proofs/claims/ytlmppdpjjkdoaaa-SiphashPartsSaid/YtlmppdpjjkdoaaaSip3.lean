/- siphash: a word of bytes; bytes written. Own work of this seat. -/
import Derived.Test.YtlmppdpjjkdoaaaSip2
import Derived.Deep.LoopGhost
namespace Go.Proofs.Ytlmppdpjjkdoaaa.Sip
open Go.RowKit Go.Proofs.Ytlmppdpjjkdoaaa.Kit Go.Proofs.Ytlmppdpjjkdoaaa.PSiphashSums Go.Proofs.YtlmppdpjjkdoaaaW.PrintWords Go.Proofs.YtlmppdpjjkdoaaaW.PrintLast Go.Proofs.YtlmppdpjjkdoaaaW.PrintMore
set_option linter.unusedVariables false

def bcell (b : UInt8) : Value := .int .u8 (b.toNat : Int)
def bcells (xs : List UInt8) : List Value := xs.map bcell
def ints (xs : List UInt8) : List Int := xs.map fun b => (b.toNat : Int)

/-- A word of eight bytes, the lowest first, as the program reckons it. -/
def wordOf (xs : List UInt8) : Int := (siphash_word.f 9 (ints xs)).getD 0

theorem word_some (xs : List UInt8) (h : 8 ≤ xs.length) : siphash_word.f 9 (ints xs) = some (wordOf xs) := by
  have hl : 8 ≤ (ints xs).length := by unfold ints; simpa using h
  have : ∃ r, siphash_word.f 9 (ints xs) = some r := by
    unfold siphash_word.f
    have w8 : ∀ k : Nat, k < 8 → wrap64 (8 * (k : Int)) = 8 * (k : Int) ∧ wrap64 ((k : Int) + 1) = ((k + 1 : Nat) : Int) := by
      intro k hk
      unfold wrap64
      omega
    have key : ∀ (d k : Nat) (x : Int), k ≤ 8 → 8 - k < d → ∃ r, siphash_word.l0 d (ints xs) x (k : Int) = some r := by
      intro d
      induction d with
      | zero => intro k x _ h; omega
      | succ d ih =>
        intro k x hk hd
        simp only [siphash_word.l0]
        by_cases h8 : k < 8
        · obtain ⟨e1, e2⟩ := w8 k h8
          rw [if_pos (by omega), if_pos (by omega), if_pos (by omega), e1, if_pos (by omega), e2]
          exact ih (k + 1) _ (by omega) (by omega)
        · rw [if_neg (by omega)]
          exact ⟨_, rfl⟩
    exact key 9 0 0 (by omega) (by omega)
  obtain ⟨r, hr⟩ := this
  unfold wordOf
  rw [hr]; rfl

theorem add_off (g o j : Nat) : (⟨g, o, none⟩ : Addr).add j = ⟨g, o + j, none⟩ := by
  unfold Addr.add
  by_cases hn : j = 0
  · subst hn; simp
  · simp [hn]

theorem seg_reads {w : World} {e : TypeId} {A : Option Addr} {n c : Nat} {xs : List UInt8} (h : Seg w e A n c (bcells xs)) (hn : n ≤ 9223372036854775807) : Kd.C (Kd.int .u8) w A (ints xs).length (ints xs) := by
  have hl : (ints xs).length = n := by rw [← h.len]; simp [ints, bcells]
  refine ⟨rfl, by omega, fun hp => ?_⟩
  have h0 : ∃ u, (bcells xs)[0]? = some u := ⟨_, List.getElem?_eq_getElem (by rw [h.len]; omega)⟩
  obtain ⟨u0, hu0⟩ := h0
  obtain ⟨g, o, rfl, _⟩ := h.cell hu0
  refine ⟨_, rfl, fun j p hj => ⟨[.int .u8 p], rfl, rfl, fun i u hi => ?_⟩⟩
  have hi0 : i = 0 := by
    rcases i with _ | i
    · rfl
    · simp at hi
  subst hi0
  simp only [List.getElem?_cons_zero, Option.some.injEq] at hi
  subst hi
  have hb : (bcells xs)[j]? = some (.int .u8 p) := by
    simp only [ints, List.getElem?_map, Option.map_eq_some_iff] at hj
    obtain ⟨b, hb, rfl⟩ := hj
    simp [bcells, bcell, hb]
  obtain ⟨g', o', he, hc⟩ := h.cell hb
  cases he
  show w.cell? (Addr.add ⟨g, o, none⟩ (j * 1 + 0)) = _
  rw [add_off]
  simpa using hc

theorem word_calls {w : World} {e : TypeId} {A : Option Addr} {n c : Nat} {xs : List UInt8} (h : Seg w e A n c (bcells xs)) (h8 : 8 ≤ n) (hn : n ≤ 9223372036854775807) :
    Calls Try.prog 64 #[.slice A n c] w fun e w' => e = .returned (.int .u64 (wordOf xs)) ∧ Drawn0 w w' := by
  have hl : (ints xs).length = n := by rw [← h.len]; simp [ints, bcells]
  have hx : 8 ≤ xs.length := by rw [← h.len] at h8; simpa [bcells] using h8
  have := siphash_word.calls 9 A c (ints xs) (wordOf xs) w (seg_reads h hn) (by rw [hl]; exact h.le) (word_some xs hx)
  rw [hl] at this
  exact this

/-- Words taken in, as long as there are eight bytes; k of them. -/
def feedN : Nat → W4 → List UInt8 → W4 × List UInt8
  | 0, s, xs => (s, xs)
  | k + 1, s, xs => feedN k (takeW s (wordOf xs)) (xs.drop 8)
def feed (s : W4) (xs : List UInt8) : W4 × List UInt8 := feedN (xs.length / 8) s xs

theorem feed_lt {s : W4} {xs : List UInt8} (h : xs.length < 8) : feed s xs = (s, xs) := by
  unfold feed
  rw [Nat.div_eq_of_lt h]; rfl
theorem feed_ge {s : W4} {xs : List UInt8} (h : 8 ≤ xs.length) : feed s xs = feed (takeW s (wordOf xs)) (xs.drop 8) := by
  unfold feed
  rw [List.length_drop, show xs.length / 8 = (xs.length - 8) / 8 + 1 by omega]
  rfl

theorem info_u8 : ∃ i, Try.prog.info? 5 = some i ∧ i.zero = some (.int .u8 0) ∧ i.size = 1 ∧ i.bytes = 1 := by
  have h : (Try.prog.info? 5).map (fun i => (i.zero, i.size, i.bytes)) = some (some (.int .u8 0), 1, 1) := by kernel_rfl
  cases hi : Try.prog.info? 5 with
  | none => rw [hi] at h; cases h
  | some i =>
    rw [hi] at h
    simp only [Option.map_some, Option.some.injEq, Prod.mk.injEq] at h
    exact ⟨i, rfl, h.1, h.2.1, h.2.2⟩
theorem elem_bytes : Try.prog.underlying 80 = some (.slice (Try.prog.elem 80)) := by kernel_rfl
theorem size_byte (wx : World) : (sizeOf (Try.prog.elem 80)).run Try.prog wx = .ok 1 wx := by kernel_rfl

def strB (t : ByteArray) : List UInt8 := t.data.toList

/-- The state: its block and what its slice reads as. -/
structure St (w : World) (base b : Nat) (s : W4) (xs : List UInt8) (cnt : Int) : Prop where
  ex : ∃ A n c, Blk w b 100 (cells6 s (.slice A n c) cnt) ∧ Seg w 5 A n c (bcells xs) ∧ (∀ k, blockOf A = some k → base ≤ k ∧ k ≠ b)

set_option maxRecDepth 100000 in
set_option maxHeartbeats 4000000 in
theorem write_calls (base b : Nat) (s : W4) (xs : List UInt8) (cnt : Int) (t : ByteArray) (w : World) (hb : base ≤ b) (hbase : base ≤ w.heap.size) (hS : St w base b s xs cnt) (hlt : xs.length < 8) (ht : t.size ≤ 140737488351232) :
    Calls Try.prog 65 #[.pointer (some ⟨b, 0, none⟩), .string t] w fun e w' => e = .returned (.tuple #[]) ∧ St w' base b (feed s (xs ++ strB t)).1 (feed s (xs ++ strB t)).2 (wrap64 (cnt + t.size)) ∧ Below base w w' := by
  obtain ⟨A, n, c, hB, hg, hA⟩ := hS.ex
  have hn : n < 8 := by
    have := hg.len
    simp [bcells] at this
    omega
  obtain ⟨i0, hi0, hz0, hs0, hy0⟩ := info_u8
  unfold cells6 at hB
  obtain ⟨⟨c0, c1, c2, c3, c4, c5⟩, ⟨f0, f1, f2, f3, f4, f5⟩⟩ := blk6 hB
  go_enter Try.func65, Try.ntmps65
  go_upto_region 1 with (fail)
  refine put_plain hB ?_
  intro w1 hB1 hs1
  have hg1 := hg.keep hs1 (fun k hk e => (hA k hk).2 e)
  clear c0 c1 c2 c3 c4 c5 f0 f1 f2 f3 f4 f5
  obtain ⟨⟨c0, c1, c2, c3, c4, c5⟩, ⟨f0, f1, f2, f3, f4, f5⟩⟩ := blk6 hB1
  go_wp2_with (at_builtin; refine wpList_append_seg_string _ rfl (.tmp 17) (.tmp 18) 80 9 rfl 5 i0 Try.underlying80 Try.underlying9 hi0 hz0 hs0 hy0 rfl hg1 t rfl (by omega) ?_; intro A2 c2' w2 hg2 hs2 hat2; have hB2 := hB1.keep hs2 (fun e => (hA b e).2 rfl); clear c0 c1 c2 c3 c4 c5 f0 f1 f2 f3 f4 f5; obtain ⟨⟨c0, c1, c2, c3, c4, c5⟩, ⟨f0, f1, f2, f3, f4, f5⟩⟩ := blk6 hB2)
  clear c0 c1 c2 c3 c4 c5 f0 f1 f2 f3 f4 f5
  go_loopg [22] (n + t.size) (fun g _ wr => ∃ (s' : W4) (ys : List UInt8), ys.length = g ∧ g ≤ n + t.size ∧ Hid (feed s' ys = feed s (xs ++ strB t)) ∧ St wr base b s' ys (wrap64 (cnt + t.size)) ∧ Below base w wr)
  case atStart =>
    have hby : bcells xs ++ Lib.strCells t = bcells (xs ++ strB t) := by simp [bcells, bcell, Lib.strCells, strB]
    rw [hby] at hg2
    have hl2 := hg2.len
    have hb2 : ∀ k, blockOf A2 = some k → base ≤ k ∧ k ≠ b := by
      intro k hk
      rcases hat2 with h | ⟨g, h, hge⟩
      · exact hA k (h ▸ hk)
      · rw [h] at hk
        obtain rfl : g = k := Option.some.inj hk
        have := hB1.lt
        have := hs1.size
        exact ⟨by omega, by omega⟩
    refine ⟨s, xs ++ strB t, by simpa [bcells] using hl2, Nat.le_refl _, Lib.hid rfl, ⟨A2, _, c2', hB2.set 4 _, hg2.keep (step_put _ _ _ _) (fun k hk e => (hb2 k hk).2 e), hb2⟩, ?_⟩
    have e1 : Below base w w1 := hs1.below hbase (fun k hk => by rw [hk]; exact hb)
    have e2 : Below base w1 w2 := hs2.below (Nat.le_trans hbase hs1.size) (fun k hk => (hA k hk).1)
    exact (e1.trans e2).setCell (p := ⟨b, 4, none⟩) hb _
  case round =>
    clear hat2 hg2 hB2 hs2 hs1 hB1 hg1 hB hg hA hS
    obtain ⟨s', ys, hyl, hgle, hfeed, hS', hbel⟩ := hrel
    obtain ⟨A', n', cc, hBr, hgr, hAr⟩ := hS'.ex
    have hn' : n' = gk := by rw [← hgr.len, ← hyl]; simp [bcells]
    subst hn'
    have hsz : base ≤ wr.heap.size := Nat.le_trans hbase hbel.size
    have hBr' := hBr
    unfold cells6 at hBr'
    obtain ⟨⟨c0, c1, c2, c3, c4, c5⟩, ⟨f0, f1, f2, f3, f4, f5⟩⟩ := blk6 hBr'
    by_cases h8 : 8 ≤ n'
    · have h8i : (8 : Int) ≤ (n' : Int) := by omega
      have hmax : n' ≤ 9223372036854775807 := by omega
      obtain ⟨A3, c3', hrun, hg3, hA3, rfl⟩ := seg_drop elem_bytes size_byte hgr (k := 8) 8 rfl h8
      go_wp2_with (first | (go_at_call 64; refine (word_calls hgr h8 hmax).mono ?_; rintro e w3 ⟨rfl, ⟨⟨nq, rfl⟩⟩⟩) | (go_at_call 75; refine (take_calls b _ s' _ _ _ _ (hBr.drewN nq)).mono ?_; rintro e w4 ⟨rfl, hB4, hs4⟩; have hB4' := hB4; unfold cells6 at hB4'; clear c0 c1 c2 c3 c4 c5 f0 f1 f2 f3 f4 f5; obtain ⟨⟨c0, c1, c2, c3, c4, c5⟩, ⟨f0, f1, f2, f3, f4, f5⟩⟩ := blk6 hB4'))
      go_roundg (n' - 8)
      case measure => omega
      case rel =>
        have hst := (((Step.refl (· = b) wr).drewN nq).same hs4).same (step_put w4 b 4 (.slice A3 (n' - 8) (cc - 8)))
        refine ⟨takeW s' (wordOf ys), ys.drop 8, by rw [List.length_drop, hyl], by omega, Lib.hid ?_, ⟨A3, _, cc - 8, hB4'.set 4 _, ?_, fun k hk => hAr k (hA3 ▸ hk)⟩, ?_⟩
        · rw [← feed_ge (by omega)]
          exact hfeed.out
        · have := hg3.keep hst (fun k hk e => (hAr k (hA3 ▸ hk)).2 e)
          simpa [bcells, List.map_drop] using this
        · exact hbel.trans (hst.below hsz (fun k hk => by rw [hk]; exact hb))
    · have h8i : ¬ (8 : Int) ≤ (n' : Int) := by omega
      go_wp2
      go_end0
      have hlt' : ys.length < 8 := by omega
      have e : feed s (xs ++ strB t) = (s', ys) := by rw [← hfeed.out, feed_lt hlt']
      rw [e]
      exact ⟨rfl, hS', hbel⟩
end Go.Proofs.Ytlmppdpjjkdoaaa.Sip
