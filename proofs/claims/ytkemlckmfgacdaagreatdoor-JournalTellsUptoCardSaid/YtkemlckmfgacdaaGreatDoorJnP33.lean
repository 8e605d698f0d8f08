/- Contract: the document's reading of an amount. -/
import Derived.Test.YtkemlckmfgacdaaGreatDoorJnP14
import Derived.Test.YtkemlckmfgacdaaGreatDoorJnP26
import Derived.Test.YtkemlckmfgacdaaGreatDoorJnP32
import Derived.Test.YtkemlckmfgacdaaGreatDoorJnP15
import Derived.Test.YtkemlckmfgacdaaGreatDoorJnP20
import Derived.Test.YtkemlckmfgacdaaGreatDoorJnP23
import Derived.Test.YtkemlckmfgacdaaGreatDoorJnP11
import Derived.Test.YtkemlckmfgacdaaGreatDoorJnP16
namespace Go.Proofs.YtkemlckmfgacdaaGreatDoor
set_option maxRecDepth 20000
set_option maxHeartbeats 64000000
open Go.ChangeShapes Go.WideShapes Go.ChangeAt Go.RowKit
set_option linter.unusedVariables false
set_option linter.unusedSimpArgs false
open Tp Nt
theorem NeedRead_any (s : Bs) (w : World) (hs : s.length ≤ 1099511627776) : Calls Tryz.prog 46 #[.string (bts s)] w fun e w' => e = .returned (rdVal (own (readR s) s)) ∧ Below w.heap.size w w' := by
 obtain ⟨S, hS⟩ : ∃ S, bts s = S := ⟨_, rfl⟩
 have HS := hid hS
 obtain ⟨Z, hZ⟩ : ∃ Z, rdVal (own (readR s) s) = Z := ⟨_, rfl⟩
 have HZ := hid hZ
 have HSL := hid hs
 have HP := hid (Pieces_any s 44)
 obtain ⟨B, hB⟩ : ∃ B, w.heap.size = B := ⟨_, rfl⟩
 have HB := hid hB
 rw [hS] at HP ⊢
 rw [hZ]
 obtain ⟨W0, hW0⟩ : ∃ W, W = (w.alloc (.cells #[.int .i64 0, .int .i64 0, .int .i64 0] 23)).alloc (.cells #[.int .i64 0, .int .i64 0, .int .i64 0] 112) := ⟨_, rfl⟩
 have HR0 : Hid (RdW B (0, 0, 0) w W0) := hid (by rw [hW0]; exact RdW.start hB)
 clear hs hS hZ
 go_enter Tryz.func46, Tryz.ntmps46
 go_upto_region 2 with fail
 rw [← hW0]
 clear hW0 hB
 obtain ⟨b45, hb45⟩ : ∃ b, (S.toList == [45]) = b := ⟨_, rfl⟩
 have HB45 : Hid (b45 = decide (s = [45])) := hid (by
  rw [← hb45, ← HS.out, bts_toList]
  by_cases h : s = [45]
  ·rw [h]; rfl
  ·rw [decide_eq_false h]; simpa using h)
 go_upto_if 15 with fail
 clear hb45
 go_cut [] (fun W => ∃ v, Hid (readR s = some v) ∧ Hid (RdW B v w W))
 case first =>
  by_cases h45 : s = [45]
  ·obtain rfl : b45 = true := HB45.out.trans (decide_eq_true h45)
   have HV : Hid (readR s = some (0, 0, 0)) := hid (by unfold readR; rw [if_pos h45])
   clear h45
   go_wp2_with fail
   go_meet
   exact ⟨_, HV, HR0⟩
  ·obtain rfl : b45 = false := HB45.out.trans (decide_eq_false h45)
   have HRD : Hid (readR s = foldO stepR (0, 0, 0) (pcs 44 s)) := hid (by unfold readR; rw [if_neg h45])
   clear h45
   go_wp2_with fail
   refine Calls.mono (HP.out W0 HSL.out) ?_
   rintro e w1 ⟨v1, rfl, hown, hb⟩
   have hne := pcs_ne 44 s
   obtain ⟨P, hP⟩ : ∃ P, pcs 44 s = P := ⟨_, rfl⟩
   rw [hP] at HRD hown hne
   obtain ⟨a1, cp1, rfl, hc1, hc2, hg1⟩ := ownForm hown
   obtain ⟨g, rfl⟩ := hg1 (List.length_pos_iff.2 hne)
   have hgB := (hown.lt g rfl).1
   have hszr := HR0.out.sz
   have HRW : Hid (RowAt g P w1) := hid (RowAt.own hown)
   have HR1 : Hid (RdW B (0, 0, 0) w w1) := hid (HR0.out.step hb hszr)
   have HLN : Hid (∀ (i : Nat) (t : Bs), P[i]? = some t → t.length ≤ 1099511627776) := hid (by
    intro i t ht
    have := pcs_len 44 s t (by rw [hP]; exact List.mem_of_getElem? ht)
    have := HSL.out
    omega)
   obtain ⟨m, hm⟩ : ∃ m, P.length = m := ⟨_, rfl⟩
   have hmI : (m : Int) ≤ 1099511627777 := by
    have := pcs_cnt 44 s
    have := HSL.out
    rw [hP, hm] at *
    omega
   have HM := hid hm
   have HGB : Hid (B + 2 ≤ g) := hid (by omega)
   rw [hm]
   clear hP hown hne hc1 hc2 hg1 hgB hszr hb hm
   go_wp2_with fail
   go_loopg [19] m (fun gh y wr => ∃ (j : Nat) (v : V3), j + gh = m ∧ y = .int .i64 (j : Int) ∧ Hid (foldO stepR (0, 0, 0) (P.take j) = some v) ∧ Hid (RdW B v w wr) ∧ Hid (RowAt g P wr))
   case atStart => exact ⟨0, (0, 0, 0), by omega, rfl, hid rfl, HR1, HRW⟩
   case round =>
    obtain ⟨j, v, hj, rfl, HF, HRD1, HRW1⟩ := hrel
    have HJ := hid hj
    by_cases hjm : j < m
    ·obtain ⟨x, hx⟩ : ∃ x, P[j]? = some x := ⟨_, List.getElem?_eq_getElem (by rw [HM.out]; exact hjm)⟩
     have HX := hid hx
     have hxl : x.length ≤ 1099511627776 := HLN.out j x hx
     obtain ⟨X, hX⟩ : ∃ X, bts x = X := ⟨_, rfl⟩
     have d1 := HRW1.out.at' j x hx
     rw [hX] at d1
     have hj1 : (0 : Int) ≤ (j : Int) := by omega
     have hj2 : (j : Int) < (m : Int) := by omega
     obtain ⟨xl, hxn⟩ : ∃ n, X.size = n := ⟨_, rfl⟩
     have hxx : x.length = xl := by rw [← hxn, ← hX, bts_size]
     obtain ⟨q, hq⟩ : ∃ q, wr.heap.size = q := ⟨_, rfl⟩
     obtain ⟨W2, hW2⟩ : ∃ W, W = wr.alloc (.cells #[.string ⟨#[99, 112, 117, 61]⟩, .string ⟨#[109, 101, 109, 61]⟩, .string ⟨#[103, 112, 117, 61]⟩] 9) := ⟨_, rfl⟩
     have hb2 : Below wr.heap.size wr W2 := be0 hW2
     have HRD2 : Hid (RdW B v w W2) := hid (HRD1.out.step hb2 HRD1.out.sz)
     have HRW2 : Hid (RowAt g P W2) := hid (HRW1.out.step hb2 HRW1.out.lt)
     have HNM2 : Hid (RowAt q names W2) := hid (by rw [hW2]; exact RowAt.names hq)
     have HQB : Hid (B + 2 ≤ q ∧ g < q) := hid ⟨by have := HRD1.out.sz; omega, by have := HRW1.out.lt; omega⟩
     have HXX := hid hxx
     have HXB := hid hX
     have HQ := hid hq
     obtain ⟨P4, hP4⟩ : ∃ p, X.extract 0 4 = p := ⟨_, rfl⟩
     obtain ⟨D4, hD4⟩ : ∃ p, X.extract 4 xl = p := ⟨_, rfl⟩
     have HP4 : Hid (P4 = bts (x.take 4)) := hid (by rw [← hP4, ← hX]; exact ext_take x 4)
     have HD4 : Hid (D4 = bts (x.drop 4)) := hid (by rw [← hD4, ← hX, ← hxx]; exact ext_drop x 4)
     have HI : Hid (∀ W, Calls Tryz.prog 45 #[.string D4] W fun e w' => IntOfQ W (x.drop 4) e w') := hid (fun W => by rw [HD4.out]; exact IntOf_any (x.drop 4) W (by simp; omega))
     have hmi := mi_le x
     have HML := hid hmi
     obtain ⟨t, ht⟩ : ∃ t, mi x = t := ⟨_, rfl⟩
     have HT := hid ht
     obtain ⟨V', hV'⟩ : ∃ V', V' = setV v (nmN t) ((intOf (x.drop 4)).getD 0).toNat := ⟨_, rfl⟩
     have HV' := hid hV'
     clear hx hxx hX hj hb2 hmi ht hV' hq hjm
     go_upto_region 8 with fail
     rw [← hW2, HQ.out]
     clear hW2 d1
     go_loopg [7, 25] 3 (fun gh f y wr2 => ∃ k : Nat, k + gh = 3 ∧ y = .int .i64 (k : Int) ∧ f = .bool (decide (t < k)) ∧ Hid (RdW B (if t < k then V' else v) w wr2) ∧ Hid (RowAt g P wr2) ∧ Hid (RowAt q names wr2) ∧ Hid (t < k → stepR v x = some V'))
     case atStart => exact ⟨0, rfl, rfl, by simp, by simpa using HRD2, HRW2, HNM2, hid (fun h => by omega)⟩
     case round =>
      obtain ⟨k, hk, rfl, rfl, HRD3, HRW3, HNM3, HST⟩ := hrel
      have HK := hid hk
      by_cases hk3 : k < 3
      ·have hk1 : (0 : Int) ≤ (k : Int) := by omega
       have hk2 : (k : Int) < 3 := by omega
       have d2 := HNM3.out.at' k _ (names_at hk3)
       obtain ⟨NK, hNK⟩ : ∃ N, bts (nmN k ++ [61]) = N := ⟨_, rfl⟩
       rw [hNK] at d2
       by_cases htk : t = k
       ·subst htk
        have hl4 := (mi_yes hk3 HT.out).1
        rw [HXX.out] at hl4
        have hl4' : (4 : Int) < (xl : Int) := by omega
        have hcmp : (P4.toList == NK.toList) = true := by rw [HP4.out, ← hNK, bts_eq, (mi_yes hk3 HT.out).2]; simp
        have HSR := hid (stepR_mi (x := x) v hk3 HT.out)
        have hdk : decide (t < t) = false := by simp
        have HRD4 : Hid (RdW B v w wr) := hid (by have := HRD3.out; rwa [if_neg (by omega)] at this)
        have HK3 := hid hk3
        rw [hdk]
        clear hk hNK hl4 hdk hk3
        go_wp2_with fail
        refine Calls.mono (HI.out _) ?_
        rintro e w3 ⟨n, rfl, hn, hb3⟩
        have HRD5 : Hid (RdW B v w w3) := hid (HRD4.out.step hb3 HRD4.out.sz)
        have HRW5 : Hid (RowAt g P w3) := hid (HRW3.out.step hb3 HRW3.out.lt)
        have HNM5 : Hid (RowAt q names w3) := hid (HNM3.out.step hb3 HNM3.out.lt)
        clear hb3 d2
        cases hI : intOf (x.drop 4) with
        | none =>
         have HZN : Hid (Z = .tuple #[.agg #[.int .i64 0, .int .i64 0, .int .i64 0], .int .i64 3]) := hid (by rw [← HZ.out, rdVal_none (by rw [own_none (HRD.out.trans (foldO_stop HF.out HX.out (by rw [HSR.out, hI])))])])
         clear hI hn
         simp only [Option.isSome_none]
         have HRES := HRD5.out
         have c0 := HRES.res 0 (by decide)
         have c1 := HRES.res 1 (by decide)
         have c2 := HRES.res 2 (by decide)
         have f0 := HRES.rf 0
         have f1 := HRES.rf 1
         have f2 := HRES.rf 2
         have HBL := hid HRES.below
         clear HRES
         go_wp2_with fail
         refine bodyPost_ret (v := .tuple #[.agg #[.int .i64 0, .int .i64 0, .int .i64 0], .int .i64 3]) (by simp [results, Tryz.results46, go_sem, cell_set, c0, c1, c2, f0, f1, f2]) rfl ⟨by rw [← HZN.out], (((HBL.out.setCell (p := ⟨B, 0, none⟩) lr _).setCell (p := ⟨B, 1, none⟩) lr _).setCell (p := ⟨B, 2, none⟩) lr _).mono (by have := HB.out; omega)⟩
        | some nn =>
         obtain rfl : n = nn := hn nn hI
         clear hn
         simp only [Option.isSome_some]
         by_cases h0 : n ≤ 0
         ·
          have HZN : Hid (Z = .tuple #[.agg #[.int .i64 0, .int .i64 0, .int .i64 0], .int .i64 3]) := hid (by rw [← HZ.out, rdVal_none (by rw [own_none (HRD.out.trans (foldO_stop HF.out HX.out (by rw [HSR.out, hI]; exact if_pos h0)))])])
          clear hI
          have HRES := HRD5.out
          have c0 := HRES.res 0 (by decide)
          have c1 := HRES.res 1 (by decide)
          have c2 := HRES.res 2 (by decide)
          have f0 := HRES.rf 0
          have f1 := HRES.rf 1
          have f2 := HRES.rf 2
          have HBL := hid HRES.below
          clear HRES
          go_wp2_with fail
          refine bodyPost_ret (v := .tuple #[.agg #[.int .i64 0, .int .i64 0, .int .i64 0], .int .i64 3]) (by simp [results, Tryz.results46, go_sem, cell_set, c0, c1, c2, f0, f1, f2]) rfl ⟨by rw [← HZN.out], (((HBL.out.setCell (p := ⟨B, 0, none⟩) lr _).setCell (p := ⟨B, 1, none⟩) lr _).setCell (p := ⟨B, 2, none⟩) lr _).mono (by have := HB.out; omega)⟩
         ·have HVV : Hid (stepR v x = some V') := hid (by rw [HSR.out, hI, HV'.out, hI]; exact if_neg h0)
          obtain ⟨u, rfl⟩ : ∃ u : Nat, n = (u : Int) := ⟨n.toNat, by omega⟩
          have HVU : Hid (V' = setV v (nmN t) u) := hid (by rw [HV'.out, hI]; simp)
          have d9 := HRD5.out.nums t HK3.out
          have f9 := HRD5.out.nf t
          clear hI
          go_wp2_with fail
          go_roundg (2 - t)
          case measure => (have := HK.out; have := HK3.out; omega)
          case rel => exact ⟨t + 1, by have := HK.out; have := HK3.out; omega, by simp, by simp, hid (by rw [if_pos (by omega), HVU.out]; exact HRD5.out.put HK3.out), hid (HRW5.out.put (by have := HGB.out; show B + 1 ≠ g; omega)), hid (HNM5.out.put (by have := HQB.out; show B + 1 ≠ q; omega)), hid (fun _ => HVV.out)⟩
       ·by_cases hl4 : 4 < xl
        ·have hl4' : (4 : Int) < (xl : Int) := by omega
         have hcmp : (P4.toList == NK.toList) = false := by
          rw [HP4.out, ← hNK, bts_eq]
          exact decide_eq_false (mi_no hk3 (by rw [HT.out]; exact htk) (by rw [HXX.out]; exact hl4))
         have HK3 := hid hk3
         have hdk : decide (t < k) = decide (t < k + 1) := by
          by_cases h : t < k
          ·rw [decide_eq_true h, decide_eq_true (by omega)]
          ·rw [decide_eq_false h, decide_eq_false (by omega)]
         have hik : (if t < k then V' else v) = (if t < k + 1 then V' else v) := by
          by_cases h : t < k
          ·rw [if_pos h, if_pos (by omega)]
          ·rw [if_neg h, if_neg (by omega)]
         have HST2 : Hid (t < k + 1 → stepR v x = some V') := hid (fun h => HST.out (by omega))
         rw [hik] at HRD3
         rw [hdk]
         obtain ⟨fb, hfb⟩ : ∃ b, decide (t < k + 1) = b := ⟨_, rfl⟩
         have HFB := hid hfb
         rw [hfb]
         clear hk hNK hl4 hk3 htk hdk hik hfb
         go_wp2_with fail
         go_roundg (2 - k)
         case measure => (have := HK.out; have := HK3.out; omega)
         case rel => exact ⟨k + 1, by have := HK.out; have := HK3.out; omega, by simp, by rw [HFB.out], HRD3, HRW3, HNM3, HST2⟩
        ·have hl4' : ¬ (4 : Int) < (xl : Int) := by omega
         have HK3 := hid hk3
         have hdk : decide (t < k) = decide (t < k + 1) := by
          by_cases h : t < k
          ·rw [decide_eq_true h, decide_eq_true (by omega)]
          ·rw [decide_eq_false h, decide_eq_false (by omega)]
         have hik : (if t < k then V' else v) = (if t < k + 1 then V' else v) := by
          by_cases h : t < k
          ·rw [if_pos h, if_pos (by omega)]
          ·rw [if_neg h, if_neg (by omega)]
         have HST2 : Hid (t < k + 1 → stepR v x = some V') := hid (fun h => HST.out (by omega))
         rw [hik] at HRD3
         rw [hdk]
         obtain ⟨fb, hfb⟩ : ∃ b, decide (t < k + 1) = b := ⟨_, rfl⟩
         have HFB := hid hfb
         rw [hfb]
         clear hk hNK hl4 hk3 htk hdk hik hfb
         go_wp2_with fail
         go_roundg (2 - k)
         case measure => (have := HK.out; have := HK3.out; omega)
         case rel => exact ⟨k + 1, by have := HK.out; have := HK3.out; omega, by simp, by rw [HFB.out], HRD3, HRW3, HNM3, HST2⟩
      ·obtain rfl : k = 3 := by omega
       by_cases ht3 : t < 3
       ·have hdk : decide (t < 3) = true := decide_eq_true ht3
        have HF2 := hid (foldO_next HF.out HX.out (HST.out ht3))
        have HRD4 : Hid (RdW B V' w wr) := hid (by have := HRD3.out; rwa [if_pos ht3] at this)
        rw [hdk]
        clear hk hk3 ht3 hdk
        go_wp2_with fail
        go_roundg (m - (j + 1))
        case measure => (have := HJ.out; omega)
        case rel => exact ⟨j + 1, V', by have := HJ.out; omega, by simp, HF2, HRD4, HRW3⟩
       ·obtain rfl : t = 3 := by have := HML.out; have := HT.out; omega
        have hdk : decide (3 < 3) = false := rfl
        have HZN : Hid (Z = .tuple #[.agg #[.int .i64 0, .int .i64 0, .int .i64 0], .int .i64 3]) := hid (by rw [← HZ.out, rdVal_none (by rw [own_none (HRD.out.trans (foldO_stop HF.out HX.out (stepR_none v HT.out)))])])
        have HRD4 : Hid (RdW B v w wr) := hid (by have := HRD3.out; rwa [if_neg ht3] at this)
        rw [hdk]
        clear hk hk3 ht3 hdk
        have HRES := HRD4.out
        have c0 := HRES.res 0 (by decide)
        have c1 := HRES.res 1 (by decide)
        have c2 := HRES.res 2 (by decide)
        have f0 := HRES.rf 0
        have f1 := HRES.rf 1
        have f2 := HRES.rf 2
        have HBL := hid HRES.below
        clear HRES
        go_wp2_with fail
        refine bodyPost_ret (v := .tuple #[.agg #[.int .i64 0, .int .i64 0, .int .i64 0], .int .i64 3]) (by simp [results, Tryz.results46, go_sem, cell_set, c0, c1, c2, f0, f1, f2]) rfl ⟨by rw [← HZN.out], (((HBL.out.setCell (p := ⟨B, 0, none⟩) lr _).setCell (p := ⟨B, 1, none⟩) lr _).setCell (p := ⟨B, 2, none⟩) lr _).mono (by have := HB.out; omega)⟩
    ·obtain rfl : j = m := by omega
     have HV : Hid (readR s = some v) := hid (by rw [HRD.out]; have := HF.out; rwa [← HM.out, List.take_length] at this)
     clear hj
     go_wp2_with fail
     go_meet
     exact ⟨_, HV, HRD1⟩
 case rest =>
  obtain ⟨v, HV, HRD⟩ := hcut
  obtain ⟨a, b, c⟩ := v
  have HCAN := readR_can HV.out
  have n0 : wc.cell? ⟨B + 1, 0, none⟩ = some (.int .i64 (a : Int)) := HRD.out.nums 0 (by decide)
  have n1 : wc.cell? ⟨B + 1, 1, none⟩ = some (.int .i64 (b : Int)) := HRD.out.nums 1 (by decide)
  have n2 : wc.cell? ⟨B + 1, 2, none⟩ = some (.int .i64 (c : Int)) := HRD.out.nums 2 (by decide)
  obtain ⟨q, hq⟩ : ∃ q, wc.heap.size = q := ⟨_, rfl⟩
  obtain ⟨Wb, hWb⟩ : ∃ W, W = wc.alloc (.cells #[.int .i64 (a : Int), .int .i64 (b : Int), .int .i64 (c : Int)] 23) := ⟨_, rfl⟩
  have hbb : Below wc.heap.size wc Wb := be0 hWb
  have HRDb : Hid (RdW B (a, b, c) w Wb) := hid (HRD.out.step hbb HRD.out.sz)
  have m0 : Wb.cell? ⟨q, 0, none⟩ = some (.int .i64 (a : Int)) := by rw [hWb]; exact (topCell _ _ _ q 0 hq.symm).trans rfl
  have m1 : Wb.cell? ⟨q, 1, none⟩ = some (.int .i64 (b : Int)) := by rw [hWb]; exact (topCell _ _ _ q 1 hq.symm).trans rfl
  have m2 : Wb.cell? ⟨q, 2, none⟩ = some (.int .i64 (c : Int)) := by rw [hWb]; exact (topCell _ _ _ q 2 hq.symm).trans rfl
  have hqb : q < Wb.heap.size := by rw [hWb, ← hq]; simp
  have HQ := hid hq
  have HQB : Hid (B + 2 ≤ q) := hid (by have := HRD.out.sz; omega)
  obtain ⟨T, hT⟩ : ∃ T, bts (needText (a, b, c)) = T := ⟨_, rfl⟩
  have HTX : Hid (∀ W, Calls Tryz.prog 42 #[.agg #[.int .i64 (a : Int), .int .i64 (b : Int), .int .i64 (c : Int)]] W fun e w' => e = .returned (.string T) ∧ Below W.heap.size W w') := hid (fun W => by rw [← hT]; exact NeedText_any a b c HCAN W)
  obtain ⟨tb, htb⟩ : ∃ b, (T.toList == S.toList) = b := ⟨_, rfl⟩
  have HTB : Hid (tb = decide (needText (a, b, c) = s)) := hid (by rw [← htb, ← hT, ← HS.out, bts_eq])
  have HFA : Hid (∀ W, Calls Tryz.prog 36 #[.agg #[.int .i64 (a : Int), .int .i64 (b : Int), .int .i64 (c : Int)]] W fun e w' => e = .returned (.int .i64 (needE a b c)) ∧ Below W.heap.size W w') := hid (fun W => needFault_any (a : Int) (b : Int) (c : Int) W)
  clear hq hbb HCAN hT
  go_upto_region 21 with fail
  rw [← hWb, HQ.out]
  clear hWb n0 n1 n2
  go_wp2_with fail
  refine Calls.mono (HTX.out _) ?_
  rintro e w2 ⟨rfl, hb2⟩
  have HRD2 : Hid (RdW B (a, b, c) w w2) := hid (HRDb.out.step hb2 HRDb.out.sz)
  replace m0 := (hb2.cell (p := ⟨q, 0, none⟩) hqb).trans m0
  replace m1 := (hb2.cell (p := ⟨q, 1, none⟩) hqb).trans m1
  replace m2 := (hb2.cell (p := ⟨q, 2, none⟩) hqb).trans m2
  replace hqb := Nat.lt_of_lt_of_le hqb hb2.size
  clear hb2
  cases tb with
  | false =>
   have hne : ¬ needText (a, b, c) = s := of_decide_eq_false HTB.out.symm
   have HZN : Hid (Z = .tuple #[.agg #[.int .i64 0, .int .i64 0, .int .i64 0], .int .i64 3]) := hid (by rw [← HZ.out, rdVal_none (by rw [HV.out]; unfold own; exact if_neg hne)])
   have HRES := HRD2
   have c0 := HRES.out.res 0 (by decide)
   have c1 := HRES.out.res 1 (by decide)
   have c2 := HRES.out.res 2 (by decide)
   have f0 := HRES.out.rf 0
   have f1 := HRES.out.rf 1
   have f2 := HRES.out.rf 2
   have HBL := hid HRES.out.below
   clear hne
   go_wp2_with fail
   refine bodyPost_ret (v := .tuple #[.agg #[.int .i64 0, .int .i64 0, .int .i64 0], .int .i64 3]) (by simp [results, Tryz.results46, go_sem, cell_set, c0, c1, c2, f0, f1, f2, m0, m1, m2]) rfl ⟨by rw [← HZN.out], (((HBL.out.setCell (p := ⟨B, 0, none⟩) lr _).setCell (p := ⟨B, 1, none⟩) lr _).setCell (p := ⟨B, 2, none⟩) lr _).mono (by have := HB.out; omega)⟩
  | true =>
   have heq : needText (a, b, c) = s := of_decide_eq_true HTB.out.symm
   have HOW : Hid (own (readR s) s = some (a, b, c)) := hid (by rw [HV.out]; unfold own; exact if_pos heq)
   clear heq
   go_wp2_with fail
   refine Calls.mono (HFA.out _) ?_
   rintro e w3 ⟨rfl, hb3⟩
   have HRES : Hid (RdW B (a, b, c) w w3) := hid (HRD2.out.step hb3 HRD2.out.sz)
   replace m0 := (hb3.cell (p := ⟨q, 0, none⟩) hqb).trans m0
   replace m1 := (hb3.cell (p := ⟨q, 1, none⟩) hqb).trans m1
   replace m2 := (hb3.cell (p := ⟨q, 2, none⟩) hqb).trans m2
   clear hb3 hqb
   have c0 := HRES.out.res 0 (by decide)
   have c1 := HRES.out.res 1 (by decide)
   have c2 := HRES.out.res 2 (by decide)
   have f0 := HRES.out.rf 0
   have f1 := HRES.out.rf 1
   have f2 := HRES.out.rf 2
   have HBL := hid HRES.out.below
   cases hnb : needB (a : Int) b c with
   | false =>
    have HZN : Hid (Z = .tuple #[.agg #[.int .i64 0, .int .i64 0, .int .i64 0], .int .i64 4]) := hid (by rw [← HZ.out, rdVal_bad HOW.out hnb])
    have hE : needE (a : Int) b c = 4 := by unfold needE; rw [hnb]; rfl
    rw [hE]
    clear hnb hE
    go_wp2_with fail
    refine bodyPost_ret (v := .tuple #[.agg #[.int .i64 0, .int .i64 0, .int .i64 0], .int .i64 4]) (by simp [results, Tryz.results46, go_sem, cell_set, c0, c1, c2, f0, f1, f2, m0, m1, m2]) rfl ⟨by rw [← HZN.out], (((HBL.out.setCell (p := ⟨B, 0, none⟩) lr _).setCell (p := ⟨B, 1, none⟩) lr _).setCell (p := ⟨B, 2, none⟩) lr _).mono (by have := HB.out; omega)⟩
   | true =>
    have HZN : Hid (Z = .tuple #[.agg #[.int .i64 (a : Int), .int .i64 (b : Int), .int .i64 (c : Int)], .int .i64 0]) := hid (by rw [← HZ.out, rdVal_ok HOW.out hnb])
    have hE : needE (a : Int) b c = 0 := by unfold needE; rw [hnb]; rfl
    rw [hE]
    clear hnb hE
    go_wp2_with fail
    refine bodyPost_ret (v := .tuple #[.agg #[.int .i64 (a : Int), .int .i64 (b : Int), .int .i64 (c : Int)], .int .i64 0]) (by simp [results, Tryz.results46, go_sem, cell_set, c0, c1, c2, f0, f1, f2, m0, m1, m2]) rfl ⟨by rw [← HZN.out], (((HBL.out.setCell (p := ⟨B, 0, none⟩) lr _).setCell (p := ⟨B, 1, none⟩) lr _).setCell (p := ⟨B, 2, none⟩) lr _).mono (by have := HB.out; omega)⟩
end Go.Proofs.YtkemlckmfgacdaaGreatDoor
namespace Go.Proofs.YtkemlckmfgacdaaGreatDoor
set_option maxRecDepth 20000
set_option maxHeartbeats 64000000
open Go.ChangeShapes Go.WideShapes Go.ChangeAt Go.RowKit
set_option linter.unusedVariables false
set_option linter.unusedSimpArgs false
open Tp Jm
def AtoiQ (w : World) (s : Bs) (e : Ending) (w' : World) : Prop := Below w.heap.size w w' ∧ match numA s with
 | some v => e = .returned (.tuple #[.int .i64 v, .nilIface])
 | none => ∃ n t p, e = .returned (.tuple #[.int .i64 n, .iface t p])
theorem Atoi_any (s : Bs) (w : World) (hs : s.length ≤ 281474976710656) (he : Env w) : Calls Tryz.prog 32 #[.string (bts s)] w (AtoiQ w s) := by
 obtain ⟨t1, p1, h1⟩ := he.e1
 obtain ⟨t2, p2, h2⟩ := he.e2
 have hsz : (bts s).size ≤ 281474976710656 := by rw [bts_size]; exact hs
 unfold AtoiQ numA
 cases h : Lib.atoiAll s with
 | ok v =>
  refine Calls.mono (Tryz.strconv_Atoi_ok (bts s) (by omega) v h w) ?_
  rintro e w' ⟨rfl, hw⟩
  refine ⟨?_, rfl⟩
  rcases hw with rfl | ⟨t, rfl⟩
  ·exact Below.refl _ _
  ·exact Go.Joins.below_bytesWorld _ w _ t lr
 | range =>
  refine Calls.mono (Tryz.strconv_Atoi_range (bts s) hsz h _ w h2 (.inr ⟨t2, p2, rfl⟩)) ?_
  rintro e w' ⟨N, rfl, hN, hc, hb⟩
  exact ⟨hb, _, _, _, rfl⟩
 | _ =>
  refine Calls.mono (Any.strconv_Atoi_syntax Tryz.laysC172 (bts s) hsz h _ w h1 (.inr ⟨t1, p1, rfl⟩)) ?_
  rintro e w' ⟨N, rfl, hN, hc, hb⟩
  exact ⟨hb, _, _, _, rfl⟩
theorem rd_nd (s : Bs) : ∃ (v : Nt.V3) (code : Int), Nt.own (Nt.readP s) s = Nt.own (Nt.readR s) s ∧ rdVal (Nt.own (Nt.readR s) s) = .tuple #[.agg #[.int .i64 (v.1 : Int), .int .i64 (v.2.1 : Int), .int .i64 (v.2.2 : Int)], .int .i64 code] ∧ ((nd s = some v ∧ code = 0) ∨ (nd s = none ∧ code ≠ 0)) := by
 refine ⟨(readOf (Nt.own (Nt.readR s) s)).1, (readOf (Nt.own (Nt.readR s) s)).2, Nt.own_same s, rfl, ?_⟩
 unfold nd readOf
 cases Nt.own (Nt.readR s) s with
 | none => exact .inr ⟨rfl, by decide⟩
 | some v =>
  simp only
  cases needB v.1 v.2.1 v.2.2 with
  | true => exact .inl ⟨rfl, rfl⟩
  | false => exact .inr ⟨rfl, by show (4 : Int) ≠ 0; decide⟩
theorem need_p (s : Bs) (w : World) (hs : s.length < 4294967281) (he : Env w) : Calls Tryz.prog 33 #[.string (bts s)] w fun e w' => Below w.heap.size w w' ∧ ∃ (v : Nt.V3) (code : Int), e = .returned (.tuple #[.agg #[.int .i64 (v.1 : Int), .int .i64 (v.2.1 : Int), .int .i64 (v.2.2 : Int)], .int .i64 code]) ∧ ((nd s = some v ∧ code = 0) ∨ (nd s = none ∧ code ≠ 0)) := by
 obtain ⟨v, code, h1, h2, h3⟩ := rd_nd s
 refine Calls.mono (Read_any s w hs he) ?_
 rintro e w' ⟨rfl, hb⟩
 exact ⟨hb, v, code, by rw [h1, h2], h3⟩
theorem need_r (s : Bs) (w : World) (hs : s.length ≤ 1099511627776) : Calls Tryz.prog 46 #[.string (bts s)] w fun e w' => Below w.heap.size w w' ∧ ∃ (v : Nt.V3) (code : Int), e = .returned (.tuple #[.agg #[.int .i64 (v.1 : Int), .int .i64 (v.2.1 : Int), .int .i64 (v.2.2 : Int)], .int .i64 code]) ∧ ((nd s = some v ∧ code = 0) ∨ (nd s = none ∧ code ≠ 0)) := by
 obtain ⟨v, code, h1, h2, h3⟩ := rd_nd s
 refine Calls.mono (NeedRead_any s w hs) ?_
 rintro e w' ⟨rfl, hb⟩
 exact ⟨hb, v, code, by rw [h2], h3⟩
theorem ask_p (s : Bs) (w : World) (he : Env w) : Calls Tryz.prog 34 #[.string (bts s)] w fun e w' => Below w.heap.size w w' ∧ ∃ (y0 : Int) (y1 y2 : ByteArray) (y3 : Int) (yd : Option Addr) (yl yc : Nat) (ec : Int), e = .returned (.tuple #[.agg #[.int .i64 y0, .string y1, .string y2, .int .i64 y3, .slice yd yl yc], .int .i64 ec]) ∧ ((∃ x, askS s = some x ∧ ec = 0 ∧ AskVP (fun b => w.heap.size ≤ b) w' x (.agg #[.int .i64 y0, .string y1, .string y2, .int .i64 y3, .slice yd yl yc])) ∨ (askS s = none ∧ ec ≠ 0)) := by
 refine Calls.mono (read_law s w he) ?_
 rintro e w' ⟨hb, y0, y1, y2, y3, yd, yl, yc, ec, h1, h2⟩
 refine ⟨hb, y0, y1, y2, y3, yd, yl, yc, ec, h1, ?_⟩
 unfold askS
 rcases h2 with ⟨hl, he2, _⟩ | ⟨hl, he2, hv⟩
 ·exact .inr ⟨if_pos hl, by omega⟩
 ·rw [if_neg (by omega)]
  cases hO : Ar.own (Ar.readR s) s with
  | none => rw [hO] at he2; exact .inr ⟨rfl, by simp at he2; omega⟩
  | some x => rw [hO] at he2 hv; exact .inl ⟨x, rfl, by simpa using he2, hv⟩
theorem ask_r (s : Bs) (w : World) (hs : s.length ≤ 2000) : Calls Tryz.prog 47 #[.string (bts s)] w fun e w' => Below w.heap.size w w' ∧ ∃ (y0 : Int) (y1 y2 : ByteArray) (y3 : Int) (yd : Option Addr) (yl yc : Nat) (ok : Bool), e = .returned (.tuple #[.agg #[.int .i64 y0, .string y1, .string y2, .int .i64 y3, .slice yd yl yc], .bool ok]) ∧ ((∃ x, askL s = some x ∧ ok = true ∧ AskVP (fun b => w.heap.size ≤ b) w' x (.agg #[.int .i64 y0, .string y1, .string y2, .int .i64 y3, .slice yd yl yc])) ∨ (askL s = none ∧ ok = false)) := by
 refine Calls.mono (refRead_any s w hs) ?_
 intro e w' hq
 obtain ⟨hb, z0, z1, z2, z3, zd, zl, zc, h1, h2⟩ := hq.form
 refine ⟨hb, z0, z1, z2, z3, zd, zl, zc, _, h1, ?_⟩
 unfold askL
 cases hO : Ar.own (Ar.readR s) s with
 | none => exact .inr ⟨rfl, rfl⟩
 | some x => rw [hO] at h2; exact .inl ⟨x, rfl, rfl, h2⟩
def JobN (B : Nat) (w : World) (j : Jb) (v : Value) : Prop := ∃ (x0 : Int) (x1 x2 : ByteArray) (x3 : Int) (xd : Option Addr) (xl xc : Nat) (aa : Option Addr) (ac : Nat), v = jobVal (bts j.user) j.prio j.a j.b j.c x0 x1 x2 x3 xd xl xc aa j.after.length ac ∧ JobP w j x0 x1 x2 x3 xd xl xc aa ac ∧ AskVP (fun b => B ≤ b) w j.ask (.agg #[.int .i64 x0, .string x1, .string x2, .int .i64 x3, .slice xd xl xc]) ∧ ∀ A, aa = some A → B ≤ A.block
theorem JobN.toV {B : Nat} {w : World} {j : Jb} {v : Value} (h : JobN B w j v) : JobV w j v := by
 obtain ⟨x0, x1, x2, x3, xd, xl, xc, aa, ac, e, hp, _⟩ := h
 exact ⟨x0, x1, x2, x3, xd, xl, xc, aa, ac, e, hp⟩
theorem JobN.keep {B : Nat} {w w' : World} {j : Jb} {v : Value} (h : JobN B w j v) (hs : w.heap.size ≤ w'.heap.size) (he : ∀ b, B ≤ b → b < w.heap.size → w'.heap[b]? = w.heap[b]?) : JobN B w' j v := by
 obtain ⟨x0, x1, x2, x3, xd, xl, xc, aa, ac, e, hp, ha, hb⟩ := h
 have ha' := AskVP.stays (q := fun b => B ≤ b) (fun b h => h) hs he _ _ ha
 refine ⟨x0, x1, x2, x3, xd, xl, xc, aa, ac, e, ⟨AskVP.toV _ _ ha', fun hl => ?_, hp.user, hp.len, hp.cap⟩, ha', hb⟩
 obtain ⟨b, off, e2, hlt, hc⟩ := hp.aft hl
 exact ⟨b, off, e2, Nat.lt_of_lt_of_le hlt hs, fun i v hv => (World.cell?_of_block (a := ⟨b, off + i, none⟩) (he b (hb _ e2) hlt)).trans (hc i v hv)⟩
def JobRdQ (w : World) (o : Option Jb) (code : Int) (e : Ending) (w' : World) : Prop := Below w.heap.size w w' ∧ match o with
 | some j => ∃ v, e = .returned (.tuple #[v, .int .i64 0]) ∧ JobN w.heap.size w' j v
 | none => e = .returned (.tuple #[jobVal ⟨#[]⟩ 0 0 0 0 0 ⟨#[]⟩ ⟨#[]⟩ 0 none 0 0 none 0 0, .int .i64 code])
def jcells (u : ByteArray) (p a b c x0 : Int) (x1 x2 : ByteArray) (x3 : Int) (xd : Option Addr) (xl xc : Nat) (s : Value) : List Value := [.string u, .int .i64 p, .int .i64 a, .int .i64 b, .int .i64 c, .int .i64 x0, .string x1, .string x2, .int .i64 x3, .slice xd xl xc, s]
def zcells : List Value := jcells ⟨#[]⟩ 0 0 0 0 0 ⟨#[]⟩ ⟨#[]⟩ 0 none 0 0 (.slice none 0 0)
theorem nums_snoc {num : Bs → Option Int} : ∀ (P : List Bs) (x : Bs), nums num (P ++ [x]) = match nums num P with
  | none => none
  | some l => (match num x with | none => none | some n => some (l ++ [n]))
 | [], x => by
  cases h : num x <;> simp [nums, h]
 | y :: P, x => by
  rw [List.cons_append, nums, nums]
  cases num y with
  | none => rfl
  | some m =>
   simp only
   rw [nums_snoc P x]
   cases nums num P with
   | none => rfl
   | some l =>
    simp only
    cases num x <;> rfl
theorem nums_stop {num : Bs → Option Int} : ∀ {P : List Bs} {k : Nat} {x : Bs} {l : List Int}, nums num (P.take k) = some l → P[k]? = some x → num x = none → nums num P = none
 | [], k, x, l, _, hx, _ => by simp at hx
 | y :: P, 0, x, l, h, hx, hn => by
  simp at hx
  subst hx
  rw [nums, hn]
 | y :: P, k + 1, x, l, h, hx, hn => by
  rw [List.take_succ_cons, nums] at h
  rw [nums]
  cases hy : num y with
  | none => rfl
  | some m =>
   rw [hy] at h
   simp only at h ⊢
   cases hl : nums num (P.take k) with
   | none => rw [hl] at h; cases h
   | some l' => rw [nums_stop hl (by simpa using hx) hn]
theorem nums_len {num : Bs → Option Int} : ∀ {P : List Bs} {l : List Int}, nums num P = some l → l.length = P.length
 | [], l, h => by cases h; rfl
 | y :: P, l, h => by
  rw [nums] at h
  cases hy : num y with
  | none => rw [hy] at h; cases h
  | some m =>
   rw [hy] at h
   simp only at h
   cases hl : nums num P with
   | none => rw [hl] at h; cases h
   | some l' => rw [hl] at h; cases h; simp [nums_len hl]
end Go.Proofs.YtkemlckmfgacdaaGreatDoor
