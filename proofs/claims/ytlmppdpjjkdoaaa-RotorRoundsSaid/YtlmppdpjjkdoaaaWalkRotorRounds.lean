/- The walk of stewardlaw15.RotorRounds. Own work of this seat. -/
import Derived.Test.YtlmppdpjjkdoaaaRotPure2
namespace Go.Proofs.Ytlmppdpjjkdoaaa.Rot
open Go.RowKit Go.Proofs.Ytlmppdpjjkdoaaa.Kit Go.Proofs.Ytlmppdpjjkdoaaa.PRotorRounds Go.Proofs.YtlmppdpjjkdoaaaW.PrintWords Go.Proofs.YtlmppdpjjkdoaaaW.PrintLast Go.Proofs.YtlmppdpjjkdoaaaW.PrintMore Go.Maps
set_option linter.unusedVariables false
set_option linter.unusedSimpArgs false

theorem rr_upto {E l' : List (ByteArray × Int)} {g : ByteArray × Int → ByteArray × Int} {n : Nat} (hl : l'.length = E.length) (hn : n = E.length) (h : ∀ (j : Nat) e, E[j]? = some e → l'[j]? = some (if j < n then g e else e)) : l' = E.map g := by
  apply List.ext_getElem?
  intro j
  rw [List.getElem?_map]
  by_cases hj : j < E.length
  · rw [h j E[j] (List.getElem?_eq_getElem hj), if_pos (by omega), List.getElem?_eq_getElem hj]; rfl
  · rw [List.getElem?_eq_none (by omega), List.getElem?_eq_none (by omega)]; rfl

theorem rr_le {g : Nat → Int} {c : Int} : ∀ (k : Nat), (∀ j, j < k → g j ≤ c) → sm g k ≤ c * k
  | 0, _ => by simp [sm]
  | k + 1, h => by
    have h1 := rr_le k (fun j hj => h j (by omega))
    have h2 := h k (by omega)
    have e : c * ((k + 1 : Nat) : Int) = c * (k : Int) + c := by rw [Int.natCast_add, Int.mul_add]; omega
    simp only [sm]; omega

set_option maxRecDepth 100000 in
set_option maxHeartbeats 1000000 in
theorem rounds_calls (A : Option Addr) (c : Nat) (l : List S49) (w : World) (hr : Kd.C k49 w A l.length l) (hc : l.length ≤ c) :
    Calls Try.prog 7 #[.slice A l.length c] w fun e w' => e = .returned (.bool true) ∧ Below w.heap.size w w' := by
  obtain ⟨m, E, hE0, hE1, hE2, hE3, hm6, HF0⟩ : ∃ (m E : List (ByteArray × Int)), dd m m.length = E ∧ (E.map Prod.fst).Nodup ∧ E.length ≤ 6 ∧ Short E ∧ m.length ≤ 6 ∧ ∀ w1, Below w.heap.size w w1 → Calls Try.prog 29 #[.slice A l.length c, .int .i64 6] w1 fun e w' => ∃ A' c', e = .returned (.slice A' m.length c') ∧ ERow w' A' m ∧ Below w1.heap.size w1 w' :=
    ⟨((l.take 6).map fw).map (fun x => (x.f0, x.f1)), ent l, rfl, ent_nodup l, ent_length l, ent_short l, by simp only [List.length_map, List.length_take]; omega, fun w1 h => (few_calls (c := c) (Kd.C_below hr h) hc).mono fun e w' ⟨A', c', h1, h2, h3⟩ => ⟨A', c', by rw [List.length_map]; exact h1, h2, h3⟩⟩
  have HF := Lib.hid HF0
  clear HF0 hr
  generalize l.length = ln at *
  have hmm := @run_makeMap Try.prog
  go_enter Try.func7, Try.ntmps7
  go_upto_region 4 with (first | (go_at_call 27; refine (awake_calls _).mono ?_; rintro e1 w1 ⟨rfl, hb1⟩) | (go_at_call 29; refine (HF.out _ hb1).mono ?_; rintro e2 w2 ⟨A2, c2, rfl, hrow2, hb2⟩) | (go_at_call 28; refine (ref_once_calls hrow2 (by omega)).mono ?_; rintro e3 w3 ⟨B, n, cB, rfl, hES, hfar3, hb3⟩))
  have hES' : ESeg w3 49 B n cB E := hE0 ▸ hES
  have hsz2 : w.heap.size ≤ w2.heap.size := Nat.le_trans hb1.size hb2.size
  have hB3 := (hb1.trans (hb2.mono hb1.size)).trans (hb3.mono hsz2)
  clear HF hrow2 hES hb1 hb2 hE0
  have hn := hES'.1
  have hs3 := hsz2
  have hw3 := Nat.le_trans hsz2 hb3.size
  have hfarB : ∀ j, blockOf B = some j → w.heap.size ≤ j := fun j hj => Nat.le_trans hsz2 (hfar3 j hj)
  have hltB : ∀ j, blockOf B = some j → j < w3.heap.size := fun j hj => hES'.lt hj
  have e15 := fun x => and_mask x 4 (by omega)
  rw [show ((2 ^ 4 - 1 : Nat) : Int) = 15 from rfl, show ((2 ^ 4 : Nat) : Int) = 16 from rfl] at e15
  clear hfar3 hs3 hb3 hsz2
  go_wp2
  go_loopw [4, 22] (fun v4 v22 wr => ∃ (i : Nat) (l' : List (ByteArray × Int)), i ≤ n ∧ v22 = .int .i64 (i : Int) ∧ v4 = .int .i64 (sm (fun j => (gmod 16 (at' E j)).2) i) ∧ ESeg wr 49 B n cB l' ∧ (∀ (j : Nat) e, E[j]? = some e → l'[j]? = some (if j < i then gmod 16 e else e)) ∧ Step (fun j => blockOf B = some j) w3 wr) (fun _ v _ => n - (intOf v).toNat)
  case atStart => exact ⟨0, E, by omega, rfl, rfl, hES', fun j e he => by rw [if_neg (by omega)]; exact he, Step.refl _ _⟩
  case round =>
    obtain ⟨i, l', hi, rfl, rfl, hE, hup, hS⟩ := hrel
    by_cases hlt : i < n
    · have hlt' : (i : Int) < (n : Int) := by omega
      have hiE : i < E.length := by omega
      have hei := hup i E[i] (List.getElem?_eq_getElem hiE)
      rw [if_neg (by omega)] at hei
      have hB0 : ∃ g, B = some ⟨g, 0, none⟩ := by
        obtain ⟨_, ⟨_, _, h0⟩ | ⟨g, cur, h0, _⟩⟩ := hE
        · subst h0; simp at hei
        · exact ⟨g, h0⟩
      obtain ⟨g, rfl⟩ := hB0
      obtain ⟨c1, c2, f2⟩ := eseg_cell hE hei
      have hsmr : 0 ≤ sm (fun j => (gmod 16 (at' E j)).2) i ∧ sm (fun j => (gmod 16 (at' E j)).2) i ≤ 16 * (i : Int) := by
        clear hei c1 c2 f2 hup
        have : ∀ k : Nat, 0 ≤ sm (fun j => (gmod 16 (at' E j)).2) k ∧ sm (fun j => (gmod 16 (at' E j)).2) k ≤ 16 * (k : Int) := by
          intro k
          induction k with
          | zero => simp [sm]
          | succ k ih =>
            have h0 := Int.emod_nonneg (at' E k).2 (show (16 : Int) ≠ 0 by omega)
            have h1 := Int.emod_lt_of_pos (at' E k).2 (show (0 : Int) < 16 by omega)
            have e : (gmod 16 (at' E k)).2 = 1 + (at' E k).2 % 16 := rfl
            simp only [sm, e] at ih ⊢
            omega
        exact this i
      have hsm : sm (fun j => (gmod 16 (at' E j)).2) (i + 1) = sm (fun j => (gmod 16 (at' E j)).2) i + (1 + (E[i]).2 % 16) := by simp only [sm]; rw [at_eq hiE]; rfl
      have hset := eseg_set hE hei (1 + (E[i]).2 % 16)
      have hnx : ∀ (j : Nat) e, E[j]? = some e → (l'.set i ((E[i]).1, 1 + (E[i]).2 % 16))[j]? = some (if j < i + 1 then gmod 16 e else e) := fun j e he => by
        rw [List.getElem?_set]
        by_cases hij : i = j
        · subst hij
          have hl' : i < l'.length := (List.getElem?_eq_some_iff.1 hei).1
          rw [if_pos rfl, if_pos hl', if_pos (by omega)]
          rw [List.getElem?_eq_getElem hiE] at he
          rw [← Option.some.inj he]; rfl
        · rw [if_neg hij, hup j e he]
          by_cases hj : j < i
          · rw [if_pos hj, if_pos (by omega)]
          · rw [if_neg hj, if_neg (by omega)]
      have h0 := Int.emod_nonneg (E[i]).2 (show (16 : Int) ≠ 0 by omega)
      have h1 := Int.emod_lt_of_pos (E[i]).2 (show (0 : Int) < 16 by omega)
      have ea := e15 (E[i]).2
      generalize hle : E[i] = e at *
      obtain ⟨s, z⟩ := e
      have hz0 : 0 ≤ z % 16 := h0
      have hz1 : z % 16 < 16 := h1
      have hea : Go.bits .and .i64 z 15 = z % 16 := ea
      clear ea h0 h1 e15
      generalize z % 16 = zm at *
      generalize sm (fun j => (gmod 16 (at' E j)).2) i = S at *
      have hwr1 : wrap64 (1 + zm) = 1 + zm := by unfold wrap64; omega
      have hwr2 : wrap64 (S + (1 + zm)) = S + (1 + zm) := by unfold wrap64; omega
      go_wp2
      exact ⟨⟨i + 1, _, by omega, by go_num, by rw [hsm], hset, hnx, hS.same ((Step.refl (fun j => blockOf (some (⟨g, 0, none⟩ : Addr)) = some j) wr).setCell (p := ⟨g, i * 2 + 1, none⟩) (fun _ => rfl) _)⟩, by simp [intOf]; omega⟩
    · obtain rfl : i = n := by omega
      have hL := rr_upto (by rw [hE.1, hn]) hn.symm hup
      subst hL
      have hLnd : ((E.map (gmod 16)).map Prod.fst).Nodup := by rw [gmod_names]; exact hE1
      have hLsh := gmod_short (M := 16) hE3
      have hLlen : (E.map (gmod 16)).length = i := by rw [List.length_map, hn]
      have hLw : ∀ j, j < i → (at' (E.map (gmod 16)) j).2 = wj (E.map (gmod 16)) j ∧ wj (E.map (gmod 16)) j ≤ 16 := fun j hj => (gmod_wj (M := 16) (by omega) (by omega) E j (by omega)).2
      have hsum : sm (fun j => (gmod 16 (at' E j)).2) i = wsum (E.map (gmod 16)) := by
        unfold wsum
        rw [hLlen]
        exact sm_congr i (fun j hj => ((gmod_wj (M := 16) (by omega) (by omega) E j (by omega)).1).symm ▸ rfl)
      have hi6 : i ≤ 6 := by omega
      rw [hsum]
      have hBw : Below w.heap.size w wr := hB3.trans (hS.below hw3 (fun j hj => hfarB j hj))
      have hszr : w.heap.size ≤ wr.heap.size := Nat.le_trans hw3 hS.size
      have hltr : ∀ j, blockOf B = some j → j < wr.heap.size := fun j hj => Nat.lt_of_lt_of_le (hltB j hj) hS.size
      generalize E.map (gmod 16) = L at *
      clear hup hS hB3 hltB hsum e15 hES' hE1 hE2 hE3
      have hwl := wj_lo L
      have hW0 : 0 ≤ wsum L := (sm_ge_each L.length (fun j _ => by have := wj_lo L j; omega : ∀ j, j < L.length → 0 ≤ wj L j)).1
      have hW2 : wsum L ≤ 96 := by
        have h0 := rr_le (g := wj L) (c := 16) L.length (fun j hj => (hLw j (by omega)).2)
        have : sm (wj L) L.length = wsum L := rfl
        omega
      obtain ⟨tn, htn⟩ : ∃ tn : Nat, wsum L = (tn : Int) := ⟨(wsum L).toNat, by omega⟩
      have htl : tn ≤ 96 := by omega
      have HWH := fun (h : 0 < L.length) => tf_whole hLnd h tn htn.symm
      have hwhole := Lib.hid HWH
      clear HWH
      have HALN := fun k j hj (h : (tn : Int) = wj L j) => tf_alone hLnd k j hj (htn.trans h)
      have halone := Lib.hid HALN
      clear HALN
      have HLO := fun k j (hj : j < L.length) => (tf_is hLnd (by omega) k).2.1 j hj
      rw [htn] at HLO
      have hlow := Lib.hid HLO
      clear HLO
      have hwemp : L = [] → tn = 0 := fun h => by
        subst h
        have : wsum ([] : List (ByteArray × Int)) = 0 := rfl
        omega
      rw [htn]
      clear htn
      go_upto_region 12 with (go_at_call 30; refine (new_calls _).mono ?_; rintro e5 w5 ⟨p, b, rfl, hR, hp, hb', hb5⟩)
      have hE5 := hE.keep (Step.of_below (F := fun _ => False) hb5) (fun _ _ h => h)
      have hB5 := hBw.trans (hb5.mono hszr)
      have hsz5 := Nat.le_trans hszr hb5.size
      have hbl := hR.map.lt
      have hpl := hR.blk.lt
      have hpb := hR.ne
      have hfB : ∀ j, blockOf B = some j → j ≠ p ∧ j ≠ b := fun j hj => by have := hltr j hj; exact ⟨by omega, by omega⟩
      clear hE hb5 hBw
      go_upto_region 15 with (fail)
      have hst6 : Step (fun _ => False) w5 (w5.alloc (.map #[] 0)) := Step.alloc (Step.refl _ _) _
      have hR6 := hR.keep hst6 (fun h => h) (fun h => h)
      have hE6 := hE5.keep hst6 (fun _ _ h => h)
      have hN6 := mint_new w5
      have hB6 := hB5.alloc hsz5 (.map #[] 0)
      have hnl := hN6.lt
      have hfN : ∀ j, blockOf B = some j → j ≠ w5.heap.size := fun j hj => by have := hE5.lt hj; omega
      generalize w5.heap.size = nb at *
      generalize w5.alloc (Obj.map #[] 0) = w6 at *
      have hpn : p ≠ nb := by omega
      have hbn : b ≠ nb := by omega
      clear hR hE5 hB5 hst6
      have hsz6 : w.heap.size ≤ w6.heap.size := hB6.size
      go_wp2
      go_loopw [49] (fun v49 wq => ∃ (k : Nat), k ≤ tn ∧ v49 = .int .i64 (k : Int) ∧ RAt wq p b ((L.length + 1) * k) (tf L k).1 ∧ MInt wq nb k (tf L k).2 ∧ ESeg wq 49 B i cB L ∧ Below w.heap.size w wq) (fun v _ => tn - (intOf v).toNat)
      case atStart => exact ⟨0, by omega, rfl, hR6, hN6, hE6, hB6⟩
      case round =>
        obtain ⟨k, hk, rfl, hRk, hNk, hEk, hBk⟩ := hrel
        by_cases hkt : k < tn
        · have hkt' : (k : Int) < (tn : Int) := by omega
          have hLe : L ≠ [] := fun h => by have := hwemp h; omega
          have hLp : 0 < L.length := List.length_pos_iff.2 hLe
          have hbd := tf_bd hLsh (by omega) k
          have hck := (tf_is hLnd hLp k).2.2.2
          have HNX : tf L (k + 1) = (pkf (tf L k).1 L, upd (tf L k).2 (pkn (tf L k).1 L) ((tf L k).2 (pkn (tf L k).1 L) + 1)) := rfl
          have hnx := Lib.hid HNX
          clear HNX
          have hlow1 := fun j hj => hlow.out (k + 1) j hj
          have halo1 := fun j hj h => halone.out (k + 1) j hj h
          have hmk1 : (tf L (k + 1)).1 = pkf (tf L k).1 L := rfl
          rw [hmk1] at hlow1 halo1
          clear hmk1
          have hbd1 := pkf_bd hbd (by omega) L hLsh
          have HOW := own_calls (c := cB) hEk.row (by omega)
          rw [hLlen] at HOW
          have hbl' := hRk.map.lt
          have hpl' := hRk.blk.lt
          have hnl' := hNk.lt
          have hNN : (L.length + 1) * k ≤ 100000 := Nat.le_trans (Nat.mul_le_mul (show L.length + 1 ≤ 7 by omega) (show k ≤ 127 by omega)) (by omega)
          have hNe : (L.length + 1) * (k + 1) = (L.length + 1) * k + L.length + 1 := by rw [Nat.mul_add, Nat.mul_one, Nat.add_assoc]
          have hps := pkn_short hbd (by omega) L hLsh
          have hbd' : Bd 1000000000000 (tf L k).1 := fun s => by have := hbd s; constructor <;> omega
          have hcs := hck (pkn (tf L k).1 L)
          have HPK : ∀ W A', ERow W A' L → Step (fun _ => False) wr W → ∀ c', Calls Try.prog 31 #[.pointer (some ⟨p, 0, none⟩), .slice A' i c'] W fun e w' => e = .returned (.tuple #[.string (pkn (tf L k).1 L), .bool true]) ∧ RAt w' p b ((L.length + 1) * k + L.length + 1) (pkf (tf L k).1 L) ∧ Step (· = b) W w' := fun W A' hA hW c' => by
            have := pick_calls (c := c') (hRk.keep hW (fun h => h) (fun h => h)) hA hLe hLnd hLsh (by omega) hNN hbd'
            rwa [hLlen] at this ⊢
          have hpk := Lib.hid HPK
          clear HPK
          have hnx1 : (tf L (k + 1)).1 = pkf (tf L k).1 L := rfl
          generalize hF1 : pkf (tf L k).1 L = F1 at *
          generalize tf L k = q at *
          obtain ⟨F, C⟩ := q
          simp only at hbd hck hps hbd' hcs
          generalize pkn F L = s at *
          have hwr : wrap64 (C s + 1) = C s + 1 := by unfold wrap64; omega
          go_upto_region 18 with (first | (go_at_call 32; refine HOW.mono ?_; rintro e7 w7 ⟨A7, c7, rfl, hA7, hf7, hb7⟩) | (go_at_call 31; refine (hpk.out _ _ hA7 (Step.of_below hb7) _).mono ?_; rintro e8 w8 ⟨rfl, hR8, hs8⟩))
          have hst8 : Step (· = b) wr w8 := (Step.of_below hb7).same hs8
          have hN8 := hNk.keep hst8 (fun e => hbn (by have e' : nb = b := e; omega))
          have hE8 := hEk.keep hst8 (fun j hj => (hfB j hj).2)
          have hB8 := hBk.trans (hst8.below hBk.size (fun j e => by have e' : j = b := e; omega))
          clear hpk HOW hRk hNk hEk hBk hb7 hs8 hst8 hA7 hf7
          go_wp2_with (first | (at_lookup; refine wpList_mint_look rfl _ _ rfl hN8 hps rfl rfl ?_) | (at_mapUpdate; refine wpList_mint_put (i := C s + 1) rfl _ _ _ rfl hN8 (by omega) hps (by omega) (by omega) rfl rfl rfl ?_; intro w9 hN9 hs9))
          have hR9 := hR8.keep hs9 hpn hbn
          have hE9 := hE8.keep hs9 (fun j hj => hfN j hj)
          have hB9 := hB8.trans (hs9.below hB8.size (fun j e => by have e' : j = nb := e; omega))
          clear hR8 hN8 hE8 hB8 hs9
          go_loopw [66] (fun v66 wq => ∃ (j : Nat), j ≤ i ∧ v66 = .int .i64 (j : Int) ∧ Step (fun _ => False) w9 wq) (fun v _ => i - (intOf v).toNat)
          case atStart => exact ⟨0, by omega, rfl, Step.refl _ _⟩
          case round =>
            obtain ⟨j, hj, rfl, hS⟩ := hrel
            by_cases hji : j < i
            · have hji' : (j : Int) < (i : Int) := by omega
              have hjL : j < L.length := by omega
              have hrow := (hE9.keep hS (fun _ _ h => h)).row
              rcases hrow with h0 | ⟨gB, oB, rfl, hcell⟩
              · exact absurd h0 hLe
              · obtain ⟨h1, h2⟩ := hcell j L[j] (List.getElem?_eq_getElem hjL)
                have hlj := hlow1 j hjL
                have haj := halo1 j hjL
                obtain ⟨hwj, hw16⟩ := hLw j hji
                have hwj1 := hwl j
                have hsz := hLsh L[j] (List.getElem_mem hjL)
                have hnm : nm L j = (L[j]).1 := by unfold nm; rw [at_eq hjL]
                rw [at_eq hjL] at hwj
                rw [hnm] at hlj haj
                rw [← hwj] at hw16 hwj1 haj
                have hb1 := hbd1 (L[j]).1
                generalize hle : L[j] = e at *
                obtain ⟨s', z⟩ := e
                simp only at hlj haj hw16 hwj1 hsz hb1
                clear hwj hnm hlow1 halo1 hbd1
                go_upto_region 24 with (fail)
                refine alloc_next (cs := [.string s', .int .i64 z]) ?_
                intro w10 hV hs10
                have hS10 := hS.same hs10
                have hR10 := hR9.keep hS10 (fun h => h) (fun h => h)
                have c1 := hV.cell (i := 0) rfl
                have c2 := hV.cell (i := 1) rfl
                generalize wr.heap.size = eb at *
                have hz64 : IntKind.i64.wrap (-(tn : Int)) = -(tn : Int) := by rw [IntKind.wrap_i64]; omega
                have kG : ¬ (F1 s' ≤ -(tn : Int)) := by omega
                by_cases hz : F1 s' = 0
                · go_wp2_with (first | (go_at_call 33; refine (mark_calls hR10 s' hsz).mono ?_; rintro e9 w9 ⟨rfl, rfl⟩))
                  exact ⟨⟨j + 1, by omega, by go_num, hS10⟩, by simp [intOf]; omega⟩
                · have hne : ¬ ((tn : Int) = z) := fun h => hz (haj h)
                  have hne' : ((tn : Int) == z) = false := by simpa using hne
                  have hz' : (F1 s' != 0) = true := by simpa using hz
                  go_wp2_with (first | (go_at_call 33; refine (mark_calls hR10 s' hsz).mono ?_; rintro e9 w9 ⟨rfl, rfl⟩))
                  exact ⟨⟨j + 1, by omega, by go_num, hS10⟩, by simp [intOf]; omega⟩
            · obtain rfl : j = i := by omega
              clear halo1 hlow1 hbd1
              go_wp2
              refine ⟨⟨k + 1, by omega, by go_num, ?_, ?_, hE9.keep hS (fun _ _ h => h), hB9.trans (hS.below hB9.size (fun _ h => h.elim))⟩, by simp [intOf]; omega⟩
              · rw [hnx.out, hNe]; exact hR9.keep hS (fun h => h) (fun h => h)
              · rw [hnx.out]; exact hN9.keep hS (fun h => h)
        · obtain rfl : k = tn := by omega
          have hck : ∀ s, 0 ≤ (tf L k).2 s ∧ (tf L k).2 s ≤ k ∨ L = [] := fun s => by
            by_cases h : L = []
            · exact .inr h
            · exact .inl ((tf_is hLnd (List.length_pos_iff.2 h) k).2.2.2 s)
          generalize tf L k = q at *
          obtain ⟨F, C⟩ := q
          simp only at hwhole hck
          have hB9 := hBk
          have hbl' := hRk.map.lt
          have hpl' := hRk.blk.lt
          have hnl' := hNk.lt
          clear halone hlow
          go_wp2
          go_loopw [92] (fun v92 wq => ∃ (j : Nat), j ≤ i ∧ v92 = .int .i64 (j : Int) ∧ Step (fun _ => False) wr wq) (fun v _ => i - (intOf v).toNat)
          case atStart => exact ⟨0, by omega, rfl, Step.refl _ _⟩
          case round =>
            obtain ⟨j, hj, rfl, hS⟩ := hrel
            by_cases hji : j < i
            · have hji' : (j : Int) < (i : Int) := by omega
              have hjL : j < L.length := by omega
              have hLe : L ≠ [] := fun h => by subst h; simp at hjL
              have hrow := (hEk.keep hS (fun _ _ h => h)).row
              rcases hrow with h0 | ⟨gB, oB, rfl, hcell⟩
              · exact absurd h0 hLe
              · obtain ⟨h1, h2⟩ := hcell j L[j] (List.getElem?_eq_getElem hjL)
                obtain ⟨hmj, hcj⟩ := hwhole.out (by omega) j hjL
                obtain ⟨hwj, hw16⟩ := hLw j hji
                have hwj1 := hwl j
                have hsz := hLsh L[j] (List.getElem_mem hjL)
                have hnm : nm L j = (L[j]).1 := by unfold nm; rw [at_eq hjL]
                rw [at_eq hjL] at hwj
                rw [hnm] at hmj hcj
                rw [← hwj] at hcj hw16 hwj1
                generalize hle : L[j] = e at *
                obtain ⟨s, z⟩ := e
                simp only at hmj hcj hw16 hwj1 hsz
                clear hwj hnm hwhole
                go_upto_region 32 with (fail)
                refine alloc_next (cs := [.string s, .int .i64 z]) ?_
                intro w8 hV hs8
                have hS8 := hS.same hs8
                have hR8 := hRk.keep hS8 (fun h => h) (fun h => h)
                have hN8 := hNk.keep hS8 (fun h => h)
                have c1 := hV.cell (i := 0) rfl
                have c2 := hV.cell (i := 1) rfl
                generalize wr.heap.size = eb at *
                go_wp2_with (first | (at_lookup; refine wpList_mint_look rfl _ _ rfl hN8 hsz rfl rfl ?_) | (go_at_call 33; refine (mark_calls hR8 s hsz).mono ?_; rintro e9 w9 ⟨rfl, rfl⟩))
                exact ⟨⟨j + 1, by omega, by go_num, hS8⟩, by simp [intOf]; omega⟩
            · obtain rfl : j = i := by omega
              go_wp2
              go_ret
              exact ⟨rfl, hB9.trans (hS.below hB9.size (fun _ h => h.elim))⟩
end Go.Proofs.Ytlmppdpjjkdoaaa.Rot
