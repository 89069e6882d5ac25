/- rotor: what Pick does, in plain Lean; the law's awake. Own work of this seat. -/
import Derived.Test.YtlmppdpjjkdoaabRotN
namespace Go.Proofs.Ytlmppdpjjkdoaab.Rot
open Go.RowKit Go.Proofs.Ytlmppdpjjkdoaab.Kit Go.Proofs.Ytlmppdpjjkdoaab.PRotorPlays Go.Proofs.YtlmppdpjjkdoaabW.PrintWords Go.Proofs.YtlmppdpjjkdoaabW.PrintLast Go.Proofs.YtlmppdpjjkdoaabW.PrintMore Go.Maps
set_option linter.unusedVariables false
set_option linter.unusedSimpArgs false

theorem pkf_bd2 {f : ByteArray → Int} {B : Int} (hB : Bd B f) (hB0 : 0 ≤ B) (l : List (ByteArray × Int)) (hsh : Short l) : Bd (B + 131070 * l.length) (pkf f l) := by
  obtain ⟨h1, h2, h3, _⟩ := pks_bd hB hB0 l hsh l.length (Nat.le_refl _)
  intro s
  unfold pkf upd
  have := h1 s
  have := h1 (pks f l l.length).best
  split <;> omega
theorem pkn_short {f : ByteArray → Int} {B : Int} (hB : Bd B f) (hB0 : 0 ≤ B) (l : List (ByteArray × Int)) (hsh : Short l) : (pkn f l).size ≤ 1000 := (pks_bd hB hB0 l hsh l.length (Nat.le_refl _)).2.2.2

def bA : ByteArray := ⟨#[97]⟩
def bB : ByteArray := ⟨#[98]⟩
def bC : ByteArray := ⟨#[99]⟩
def l3 : List (ByteArray × Int) := [(bA, 5), (bB, 1), (bC, 1)]
theorem nAB : bA ≠ bB := by decide
theorem nAC : bA ≠ bC := by decide
theorem nBC : bB ≠ bC := by decide
theorem l3_short : Short l3 := by
  intro e he
  simp only [l3, List.mem_cons, List.not_mem_nil, or_false] at he
  rcases he with rfl | rfl | rfl <;> decide
theorem l3_nodup : (l3.map Prod.fst).Nodup := by decide
theorem dd3 : dd l3 l3.length = l3 := by decide +kernel
theorem wt5 : wt 5 = 5 := by decide
theorem wt1 : wt 1 = 1 := by decide

/-- Marks at the three names. -/
def At3 (f : ByteArray → Int) (x y z : Int) : Prop := f bA = x ∧ f bB = y ∧ f bC = z
theorem pick3 (f : ByteArray → Int) (x y z : Int) (h : At3 f x y z) :
    (pkn f l3 = if z + 1 > (if y + 1 > x + 5 then y + 1 else x + 5) then bC else if y + 1 > x + 5 then bB else bA) ∧
    At3 (pkf f l3) (if pkn f l3 = bA then x + 5 - 7 else x + 5) (if pkn f l3 = bB then y + 1 - 7 else y + 1) (if pkn f l3 = bC then z + 1 - 7 else z + 1) := by
  obtain ⟨h1, h2, h3⟩ := h
  have e : pks f l3 l3.length = pstep (pstep (pstep ⟨f, 0, ⟨#[]⟩⟩ 0 (bA, 5)) 1 (bB, 1)) 2 (bC, 1) := rfl
  have nBA := nAB.symm
  have nCA := nAC.symm
  have nCB := nBC.symm
  have e1 : pstep ⟨f, 0, ⟨#[]⟩⟩ 0 (bA, 5) = ⟨upd f bA (x + 5), 5, bA⟩ := by simp [pstep, wt5, h1]
  have e2 : pstep ⟨upd f bA (x + 5), 5, bA⟩ 1 (bB, 1) = ⟨upd (upd f bA (x + 5)) bB (y + 1), 6, if y + 1 > x + 5 then bB else bA⟩ := by
    simp [pstep, wt1, h2, upd, nAB, nBA]
  have hb : ∀ t, t = (if y + 1 > x + 5 then bB else bA) → upd (upd f bA (x + 5)) bB (y + 1) t = (if y + 1 > x + 5 then y + 1 else x + 5) := by
    rintro t rfl
    split <;> simp [upd, nAB]
  have hbc : (if y + 1 > x + 5 then bB else bA) ≠ bC := by split <;> simp [nBC, nAC]
  have e3 : pks f l3 l3.length = ⟨upd (upd (upd f bA (x + 5)) bB (y + 1)) bC (z + 1), 7, if z + 1 > (if y + 1 > x + 5 then y + 1 else x + 5) then bC else if y + 1 > x + 5 then bB else bA⟩ := by
    rw [e, e1, e2]
    have q1 : upd (upd f bA (x + 5)) bB (y + 1) bC = z := by simp [upd, nCA, nCB, h3]
    have q2 : upd (upd (upd f bA (x + 5)) bB (y + 1)) bC (z + 1) (if y + 1 > x + 5 then bB else bA) = (if y + 1 > x + 5 then y + 1 else x + 5) := by
      rw [upd_other _ _ hbc]; exact hb _ rfl
    unfold pstep
    simp only [wt1, q1, q2]
    simp
  have hn : pkn f l3 = if z + 1 > (if y + 1 > x + 5 then y + 1 else x + 5) then bC else if y + 1 > x + 5 then bB else bA := by unfold pkn; rw [e3]
  refine ⟨hn, ?_⟩
  have g1 : upd (upd (upd f bA (x + 5)) bB (y + 1)) bC (z + 1) bA = x + 5 := by simp [upd, nAB, nAC]
  have g2 : upd (upd (upd f bA (x + 5)) bB (y + 1)) bC (z + 1) bB = y + 1 := by simp [upd, nBC]
  have g3 : upd (upd (upd f bA (x + 5)) bB (y + 1)) bC (z + 1) bC = z + 1 := by simp [upd]
  have hf : pkf f l3 = upd (upd (upd (upd f bA (x + 5)) bB (y + 1)) bC (z + 1)) (pkn f l3) (upd (upd (upd f bA (x + 5)) bB (y + 1)) bC (z + 1) (pkn f l3) - 7) := by
    unfold pkf pkn; rw [e3]
  rw [hf]
  generalize upd (upd (upd f bA (x + 5)) bB (y + 1)) bC (z + 1) = F at *
  generalize pkn f l3 = n at *
  refine ⟨?_, ?_, ?_⟩
  · by_cases h : n = bA
    · subst h; rw [if_pos rfl, upd_same, g1]
    · rw [if_neg h, upd_other _ _ (fun e => h e.symm), g1]
  · by_cases h : n = bB
    · subst h; rw [if_pos rfl, upd_same, g2]
    · rw [if_neg h, upd_other _ _ (fun e => h e.symm), g2]
  · by_cases h : n = bC
    · subst h; rw [if_pos rfl, upd_same, g3]
    · rw [if_neg h, upd_other _ _ (fun e => h e.symm), g3]

/-- Seven turns. -/
def aw : Nat → (ByteArray → Int) × ByteArray
  | 0 => (fun _ => 0, ⟨#[]⟩)
  | k + 1 => (pkf (aw k).1 l3, (aw k).2 ++ pkn (aw k).1 l3)
theorem aw_bd : ∀ (k : Nat), Bd (393210 * (k : Int)) (aw k).1
  | 0 => fun s => by simp [aw]
  | k + 1 => by
    have h := pkf_bd2 (aw_bd k) (by omega) l3 l3_short
    have e : (393210 * (k : Int) + 131070 * (l3.length : Int)) = 393210 * ((k + 1 : Nat) : Int) := by
      have : (l3.length : Int) = 3 := rfl
      omega
    rw [e] at h
    exact h
theorem aw_size : ∀ (k : Nat), (aw k).2.size ≤ 1000 * k
  | 0 => by simp [aw, ByteArray.size]
  | k + 1 => by
    have h1 := aw_size k
    have h2 := pkn_short (aw_bd k) (by omega) l3 l3_short
    show ((aw k).2 ++ pkn (aw k).1 l3).size ≤ _
    rw [ByteArray.size_append]
    omega
theorem aw7 : (aw 7).2 = ⟨#[97, 97, 98, 97, 99, 97, 97]⟩ := by
  have h0 : At3 (aw 0).1 0 0 0 := ⟨rfl, rfl, rfl⟩
  have step : ∀ k x y z, At3 (aw k).1 x y z → (pkn (aw k).1 l3 = if z + 1 > (if y + 1 > x + 5 then y + 1 else x + 5) then bC else if y + 1 > x + 5 then bB else bA) ∧ At3 (aw (k + 1)).1 (if pkn (aw k).1 l3 = bA then x + 5 - 7 else x + 5) (if pkn (aw k).1 l3 = bB then y + 1 - 7 else y + 1) (if pkn (aw k).1 l3 = bC then z + 1 - 7 else z + 1) := fun k x y z h => pick3 _ x y z h
  have nBA := nAB.symm
  have nCA := nAC.symm
  have nCB := nBC.symm
  obtain ⟨n0, h1⟩ := step 0 0 0 0 h0
  have n0' : pkn (aw 0).1 l3 = bA := by rw [n0]; decide
  rw [n0'] at h1
  have h1 : At3 (aw 1).1 (-2) 1 1 := by simpa [nAB, nAC] using h1
  obtain ⟨n1, h2⟩ := step 1 _ _ _ h1
  have n1' : pkn (aw 1).1 l3 = bA := by rw [n1]; decide
  rw [n1'] at h2
  have h2 : At3 (aw 2).1 (-4) 2 2 := by simpa [nAB, nAC] using h2
  obtain ⟨n2, h3⟩ := step 2 _ _ _ h2
  have n2' : pkn (aw 2).1 l3 = bB := by rw [n2]; decide
  rw [n2'] at h3
  have h3 : At3 (aw 3).1 1 (-4) 3 := by simpa [nBA, nBC] using h3
  obtain ⟨n3, h4⟩ := step 3 _ _ _ h3
  have n3' : pkn (aw 3).1 l3 = bA := by rw [n3]; decide
  rw [n3'] at h4
  have h4 : At3 (aw 4).1 (-1) (-3) 4 := by simpa [nAB, nAC] using h4
  obtain ⟨n4, h5⟩ := step 4 _ _ _ h4
  have n4' : pkn (aw 4).1 l3 = bC := by rw [n4]; decide
  rw [n4'] at h5
  have h5 : At3 (aw 5).1 4 (-2) (-2) := by simpa [nCA, nCB] using h5
  obtain ⟨n5, h6⟩ := step 5 _ _ _ h5
  have n5' : pkn (aw 5).1 l3 = bA := by rw [n5]; decide
  rw [n5'] at h6
  have h6 : At3 (aw 6).1 2 (-1) (-1) := by simpa [nAB, nAC] using h6
  obtain ⟨n6, _⟩ := step 6 _ _ _ h6
  have n6' : pkn (aw 6).1 l3 = bA := by rw [n6]; decide
  show (((((((⟨#[]⟩ ++ pkn (aw 0).1 l3) ++ pkn (aw 1).1 l3) ++ pkn (aw 2).1 l3) ++ pkn (aw 3).1 l3) ++ pkn (aw 4).1 l3) ++ pkn (aw 5).1 l3) ++ pkn (aw 6).1 l3 : ByteArray) = _
  rw [n0', n1', n2', n3', n4', n5', n6']
  decide +kernel

set_option maxRecDepth 100000 in
set_option maxHeartbeats 1000000 in
theorem awake_calls (w : World) : Calls Try.prog 13 #[] w fun e w' => e = .returned (.bool true) ∧ Below w.heap.size w w' := by
  go_enter Try.func13, Try.ntmps13
  go_wp2_with (go_at_call 14; refine (new_calls _).mono ?_; rintro e1 w1 ⟨p, b, rfl, hR1, hp1, hb1', hb1⟩)
  go_loopw [2, 8] (fun v2 v8 wr => ∃ (k : Nat), k ≤ 7 ∧ v8 = .int .i64 (k : Int) ∧ v2 = .string (aw k).2 ∧ RAt wr p b (4 * k) (aw k).1 ∧ Below w.heap.size w wr) (fun _ v _ => 7 - (intOf v).toNat)
  case atStart => exact ⟨0, by omega, rfl, rfl, hR1, hb1⟩
  case round =>
    obtain ⟨k, hk, rfl, rfl, hR, hB⟩ := hrel
    by_cases hlt : k < 7
    · have hlt' : (k : Int) < 7 := by omega
      have hbd := aw_bd k
      have hsz1 := aw_size k
      have hsz2 := pkn_short hbd (by omega) l3 l3_short
      have hnx : aw (k + 1) = (pkf (aw k).1 l3, (aw k).2 ++ pkn (aw k).1 l3) := rfl
      have HNX := Lib.hid hnx
      clear hnx
      generalize aw k = q at *
      obtain ⟨f, S⟩ := q
      have hsz : S.size + (pkn f l3).size ≤ 8000 := by simp only at hsz1 hsz2; omega
      have hszm : S.size + (pkn f l3).size ≤ maxLen := by unfold maxLen; omega
      have hszn : ¬ (maxLen < S.size + (pkn f l3).size) := by omega
      have hszi : ¬ ((9223372036854775807 : Int) < (S.size : Int) + ((pkn f l3).size : Int)) := by omega
      have hE := blk_new wr [.string bA, .int .i64 5, .string bB, .int .i64 1, .string bC, .int .i64 1] 67
      have hrow := erow_block (l := l3) hE (fun j v hj => by simpa [l3, ecells] using hj)
      have hRa := hR.keep (Step.alloc (Step.refl (fun _ => False) wr) (.cells [Value.string bA, .int .i64 5, .string bB, .int .i64 1, .string bC, .int .i64 1].toArray 67)) (fun h => h) (fun h => h)
      have HP := pick_gen (c := 3) hRa hrow (by decide) l3_short (by decide) (by omega) (fun s => by have := hbd s; constructor <;> omega)
      rw [dd3] at HP
      go_wp2_with (go_at_call 27; refine HP.mono ?_; rintro e2 w2 ⟨rfl, hR2, hs2⟩)
      refine ⟨⟨k + 1, by omega, by go_num, by rw [HNX.out], ?_, ?_⟩, by simp [intOf]; omega⟩
      · have hl3 : l3.length = 3 := rfl
        have e : 4 * (k + 1) = 4 * k + l3.length + 1 := by omega
        rw [HNX.out]
        rw [e]; exact hR2
      · exact (hB.alloc hB.size _).trans (hs2.below (Nat.le_trans hB.size (Step.alloc (Step.refl (fun _ => False) wr) _).size) (fun j e => by have e' : j = b := e; omega))
    · obtain rfl : k = 7 := by omega
      have h7 := aw7
      generalize (aw 7).2 = S at *
      subst h7
      go_wp2
      go_ret
      exact ⟨rfl, hB⟩
end Go.Proofs.Ytlmppdpjjkdoaab.Rot
