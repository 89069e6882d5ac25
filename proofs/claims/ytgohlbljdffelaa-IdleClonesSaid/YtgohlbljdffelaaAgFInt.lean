/- agenda: Fix, Push, Pop, Remove of the library's heap, over the pile. Own work of this seat. -/
import Derived.Test.YtgohlbljdffelaaAgEInt
namespace Go.Proofs.Ytgohlbljdffelaa.AgInt
open Go.RowKit Go.Proofs.Ytgohlbljdffelaa.Kit Go.Proofs.Ytgohlbljdffelaa.Cmp Go.Proofs.Ytgohlbljdffelaa.HeapP
set_option linter.unusedVariables false
set_option linter.unusedSimpArgs false

set_option maxRecDepth 100000 in
set_option maxHeartbeats 1000000 in
theorem fix_calls {w : World} {a : Nat} {M : Value} {turn : Int} {A : Option Addr} {c : Nat} {xs : List It} (h : HM w a M turn A c xs) {i : Nat} (hi : i < xs.length) (hmax : xs.length ≤ 1000000) (hb : Bad1 le (lg xs) i xs.length) :
    Calls Try.prog 32 #[.iface 78 (.pointer (some ⟨a, 0, none⟩)), .int .i64 (i : Int)] w fun e w' => e = .returned (.tuple #[]) ∧ ∃ xs', HM w' a M turn A c xs' ∧ xs'.Perm xs ∧ HeapG le (lg xs') xs.length ∧ Step (foot A xs) w w' := by
  have c0 := h.cell0
  have hm1 := meth_len c0
  have n1 := fun w => nil_len a w
  have HD := down_calls h (i0 := i) (n := xs.length) (by omega) (Nat.le_refl _) hmax hb
  have HU0 := fun w1 (ys : List It) (hy : HM w1 a M turn A c ys) (hp : ys = xs) (hk : KidsOk le (lg xs) i xs.length) => up_calls (hp ▸ hy) hi (Nat.le_refl _) hmax hb hk
  have HU := Lib.hid HU0
  clear h hb HU0
  go_enter Try.func32, Try.ntmps32
  go_wp2_with (first | (go_at_call 128; refine (len_calls _ _ _ _).mono ?_; rintro e w' ⟨rfl, rfl⟩) | (go_at_call 58; refine HD.mono ?_; rintro e w1 ⟨b, ys, rfl, hys, hpm, hrest, hT, hF, hs1⟩; have HT := Lib.hid hT; have HF := Lib.hid hF; have HR := Lib.hid hrest; clear hT hF hrest) | (go_at_call 59; refine (HU.out _ _ hys (HF.out (by first | assumption | simp_all)).1 (HF.out (by first | assumption | simp_all)).2).mono ?_; rintro e w2 ⟨rfl, zs, hzs, hpm2, hh2, hr2, hs2⟩))
  · go_end0
    exact ⟨rfl, zs, hzs, hpm2, hh2, hs1.same hs2⟩
  · have hb : b = true := by simp_all
    go_end0
    exact ⟨rfl, ys, hys, hpm, HT.out hb, hs1⟩

set_option maxRecDepth 100000 in
set_option maxHeartbeats 1000000 in
theorem hpush_calls {w : World} {a : Nat} {M : Value} {turn : Int} {A : Option Addr} {c : Nat} {xs : List It} (h : HM w a M turn A c xs) (hmax : xs.length ≤ 100000) (hh : HeapG le (lg xs) xs.length) (x : It) {p0 : Nat} (hx : Blk w x.blk 76 (icells x p0)) (hn : ∀ y ∈ xs, y.blk ≠ x.blk) (hxa : x.blk ≠ a) (hxA : blockOf A ≠ some x.blk) :
    Calls Try.prog 33 #[.iface 78 (.pointer (some ⟨a, 0, none⟩)), .iface 73 (ptr x)] w fun e w' => e = .returned (.tuple #[]) ∧ ∃ A' c' xs', HM w' a M turn A' c' xs' ∧ xs'.Perm (xs ++ [x]) ∧ HeapG le (lg xs') xs'.length ∧ Step (fun k => k = a ∨ foot A xs k ∨ k = x.blk) w w' ∧ (blockOf A' = blockOf A ∨ ∃ k, blockOf A' = some k ∧ w.heap.size ≤ k) := by
  have hm1 := meth_push a w
  have n1 := fun w => nil_push a w
  have n2 := fun w => nil_len a w
  have HP := push_calls h hmax x hx hn hxa hxA
  have hlx : (xs ++ [x]).length = xs.length + 1 := by simp
  have hlg : ∀ k, k < xs.length → lg (xs ++ [x]) k = lg xs k := fun k hk => by
    rw [lg_get hk, lg_get (by omega), List.getElem_append_left hk]
  have hbk := push_bad (g' := lg (xs ++ [x])) hh hlg
  rw [← hlx] at hbk
  have HBK := Lib.hid hbk
  have HLX := Lib.hid hlx
  have ecast : ((xs.length + 1 : Nat) : Int) - 1 = ((xs.length : Nat) : Int) := by omega
  have HFT := Lib.hid (fun (A' : Option Addr) (k : Nat) (hk : k < w.heap.size) (hA : blockOf A' = blockOf A ∨ ∃ k, blockOf A' = some k ∧ w.heap.size ≤ k) (hf : foot A' (xs ++ [x]) k) => (show k = a ∨ foot A xs k ∨ k = x.blk by
    rcases hf with e | ⟨y, hy, e⟩
    · rcases hA with e2 | ⟨j, e2, hj⟩
      · exact .inr (.inl (.inl (by rw [← e2]; exact e)))
      · rw [e] at e2
        obtain rfl := Option.some.inj e2
        omega
    · rcases List.mem_append.1 hy with hy | hy
      · exact .inr (.inl (.inr ⟨y, hy, e⟩))
      · obtain rfl : y = x := by simpa using hy
        exact .inr (.inr e.symm)))
  have HF1 := Lib.hid (fun (k : Nat) (hk : k = a ∨ blockOf A = some k ∨ k = x.blk) => (show k = a ∨ foot A xs k ∨ k = x.blk from hk.imp id (fun h => h.imp .inl id)))
  clear h hx hn hh hlg hbk hlx
  unfold ptr at HP ⊢
  go_enter Try.func33, Try.ntmps33
  go_wp2_with (first | (go_at_call 132; refine HP.mono ?_; rintro e w1 ⟨rfl, A1, c1, h1, hs1, hA1⟩; have d0 : w1.cell? ⟨a, 0, none⟩ = some (.slice A1 (xs.length + 1) c1) := (by have := h1.cell0; rwa [HLX.out] at this); have hm2 := meth_len d0) | (go_at_call 128; refine (len_calls _ _ _ _).mono ?_; rintro e w' ⟨rfl, rfl⟩) | (go_at_call 59; refine (up_calls h1 (j := xs.length) (by rw [HLX.out]; omega) (Nat.le_refl _) (by rw [HLX.out]; omega) HBK.out.1 HBK.out.2).mono ?_; rintro e w2 ⟨rfl, zs, hzs, hpm2, hh2, hr2, hs2⟩))
  go_end0
  refine ⟨rfl, A1, c1, zs, hzs, hpm2, by rw [hpm2.length_eq]; exact hh2, (hs1.mono (fun k _ h => HF1.out k h)).trans hs2 (fun k hk hf => HFT.out A1 k hk hA1 hf), hA1⟩
end Go.Proofs.Ytgohlbljdffelaa.AgInt
