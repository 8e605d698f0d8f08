/- Contract: the program's reading of an amount. -/
import Derived.Test.YtkemlckmfgacdaaGreatDoorJnP15
namespace Go.Proofs.YtkemlckmfgacdaaGreatDoor
set_option maxRecDepth 20000
set_option maxHeartbeats 64000000
open Go.ChangeShapes Go.WideShapes Go.ChangeAt Go.RowKit
set_option linter.unusedVariables false
set_option linter.unusedSimpArgs false
open Tp Nt
theorem stepP_num (v : V3) (x : Bs) : stepP v x = match numB (cutB 61 x).2.1 with | some n => if n ≤ 0 then none else some (setV v (cutB 61 x).1 n.toNat) | none => none := by
 unfold stepP numB
 cases Lib.parseIntB 64 (cutB 61 x).2.1 <;> rfl
def setK (v : V3) (n : Bs) (u k : Nat) : V3 := (if 0 < k ∧ n = cpu then u else v.1, if 1 < k ∧ n = mem then u else v.2.1, if 2 < k ∧ n = gpu then u else v.2.2)
theorem setK_zero (v : V3) (n : Bs) (u : Nat) : setK v n u 0 = v := by
 unfold setK
 simp
theorem setK_three (v : V3) (n : Bs) (u : Nat) : setK v n u 3 = setV v n u := by
 unfold setK setV
 simp
theorem setK_no {v : V3} {n : Bs} {u k : Nat} (hk : k < 3) (h : nmN k ≠ n) : setK v n u (k + 1) = setK v n u k := by
 rcases (by omega : k = 0 ∨ k = 1 ∨ k = 2) with rfl | rfl | rfl
 ·have : ¬ n = cpu := fun e => h e.symm
  simp [setK, this]
 ·have : ¬ n = mem := fun e => h e.symm
  simp [setK, this]
 ·have : ¬ n = gpu := fun e => h e.symm
  simp [setK, this]
theorem setK_yes {v : V3} {n : Bs} {u k : Nat} (hk : k < 3) (h : nmN k = n) (i : Nat) (hi : i < 3) : nuN (setK v n u (k + 1)) i = if i = k then u else nuN (setK v n u k) i := by
 have e1 : (mem : Bs) ≠ cpu := by decide
 have e2 : (gpu : Bs) ≠ cpu := by decide
 have e3 : (gpu : Bs) ≠ mem := by decide
 have e4 : (cpu : Bs) ≠ mem := by decide
 have e5 : (cpu : Bs) ≠ gpu := by decide
 have e6 : (mem : Bs) ≠ gpu := by decide
 subst h
 rcases (by omega : k = 0 ∨ k = 1 ∨ k = 2) with rfl | rfl | rfl <;> rcases (by omega : i = 0 ∨ i = 1 ∨ i = 2) with rfl | rfl | rfl <;> simp [setK, nuN, nmN, e1, e2, e3, e4, e5, e6]
theorem RdW.putK {B k u : Nat} {v : V3} {n : Bs} {w wr : World} (h : RdW B (setK v n u k) w wr) (hk : k < 3) (hn : nmN k = n) : RdW B (setK v n u (k + 1)) w (wr.setCell ⟨B + 1, k, none⟩ (.int .i64 (u : Int))) := by
 refine ⟨fun i hi => ?_, fun i hi => ?_, h.below.setCell (p := ⟨B + 1, k, none⟩) (by show B ≤ B + 1; omega) _, by simpa using h.sz, fun i => by rw [World.frozen?_setCell]; exact h.rf i, fun i => by rw [World.frozen?_setCell]; exact h.nf i⟩
 ·rw [World.cell?_setCell_other _ _ _ _ (by intro e; have := congrArg Addr.block e; simp at this)]
  exact h.res i hi
 ·rw [setK_yes hk hn i hi, cell_set]
  by_cases e : i = k
  ·subst e
   rw [if_pos rfl, if_pos rfl, h.nums i hi]; rfl
  ·rw [if_neg (by intro h2; have := congrArg Addr.off h2; simp at this; omega), if_neg e]
   exact h.nums i hi
structure PtsAt (q b : Nat) (w : World) : Prop where
 lt : q < w.heap.size
 nm : ∀ k, k < 3 → w.cell? ⟨q, k * 2, none⟩ = some (.string (bts (nmN k)))
 pt : ∀ k, k < 3 → w.cell? ⟨q, k * 2 + 1, none⟩ = some (.pointer (some ⟨b, k, none⟩))
theorem PtsAt.step {q b C : Nat} {wr wx : World} (h : PtsAt q b wr) (hb : Below C wr wx) (hC : q < C) : PtsAt q b wx :=
 ⟨Nat.lt_of_lt_of_le h.lt hb.size, fun k hk => (hb.cell (p := ⟨q, k * 2, none⟩) hC).trans (h.nm k hk), fun k hk => (hb.cell (p := ⟨q, k * 2 + 1, none⟩) hC).trans (h.pt k hk)⟩
theorem PtsAt.put {q b : Nat} {wr : World} {a : Addr} {u : Value} (h : PtsAt q b wr) (ha : a.block ≠ q) : PtsAt q b (wr.setCell a u) :=
 ⟨by simpa using h.lt, fun k hk => by rw [World.cell?_setCell_other _ _ _ _ (by intro e; exact ha (congrArg Addr.block e))]; exact h.nm k hk, fun k hk => by rw [World.cell?_setCell_other _ _ _ _ (by intro e; exact ha (congrArg Addr.block e))]; exact h.pt k hk⟩
theorem PtsAt.start {w : World} {q b : Nat} {t : TypeId} (hq : w.heap.size = q) : PtsAt q b (w.alloc (.cells #[.string ⟨#[99, 112, 117]⟩, .pointer (some ⟨b, 0, none⟩), .string ⟨#[109, 101, 109]⟩, .pointer (some ⟨b, 1, none⟩), .string ⟨#[103, 112, 117]⟩, .pointer (some ⟨b, 2, none⟩)] t)).drew := by
 refine ⟨by show q < (w.alloc _).heap.size; simp [hq], fun k hk => ?_, fun k hk => ?_⟩
 ·refine (topCell w _ t q (k * 2) hq.symm).trans ?_
  rcases (by omega : k = 0 ∨ k = 1 ∨ k = 2) with rfl | rfl | rfl <;> rfl
 ·refine (topCell w _ t q (k * 2 + 1) hq.symm).trans ?_
  rcases (by omega : k = 0 ∨ k = 1 ∨ k = 2) with rfl | rfl | rfl <;> rfl
theorem Read_any (s : Bs) (w : World) (hs : s.length < 4294967281) (he : Env w) : Calls Tryz.prog 33 #[.string (bts s)] w fun e w' => e = .returned (rdVal (own (readP s) s)) ∧ Below w.heap.size w w' := by
 obtain ⟨S, hS⟩ : ∃ S, bts s = S := ⟨_, rfl⟩
 have HS := hid hS
 obtain ⟨Z, hZ⟩ : ∃ Z, rdVal (own (readP s) s) = Z := ⟨_, rfl⟩
 have HZ := hid hZ
 have HSL := hid hs
 have HP := hid (fun W => Split_any s 44 W hs)
 obtain ⟨B, hB⟩ : ∃ B, w.heap.size = B := ⟨_, rfl⟩
 have HB := hid hB
 have HEV : Hid (∀ wr v, RdW B v w wr → Env wr) := hid (fun wr v h => he.below h.below (Nat.le_of_eq hB))
 rw [hS] at HP ⊢
 rw [hZ]
 rw [show bts [44] = (⟨#[44]⟩ : ByteArray) from rfl] at HP
 obtain ⟨W0, hW0⟩ : ∃ W, W = (w.alloc (.cells #[.int .i64 0, .int .i64 0, .int .i64 0] 23)).alloc (.cells #[.int .i64 0, .int .i64 0, .int .i64 0] 23) := ⟨_, rfl⟩
 have HR0 : Hid (RdW B (0, 0, 0) w W0) := hid (by rw [hW0]; exact RdW.start hB)
 clear hs hS hZ he
 go_enter Tryz.func33, Tryz.ntmps33
 go_upto_region 2 with fail
 rw [← hW0]
 clear hW0 hB
 obtain ⟨b45, hb45⟩ : ∃ b, (S.toList == [45]) = b := ⟨_, rfl⟩
 have HB45 : Hid (b45 = decide (s = [45])) := hid (by
  rw [← hb45, ← HS.out, bts_toList]
  by_cases h : s = [45]
  ·rw [h]; rfl
  ·rw [decide_eq_false h]; simpa using h)
 go_upto_if 16 with fail
 clear hb45
 go_cut [] (fun W => ∃ v, Hid (readP s = some v) ∧ Hid (RdW B v w W))
 case first =>
  by_cases h45 : s = [45]
  ·obtain rfl : b45 = true := HB45.out.trans (decide_eq_true h45)
   have HV : Hid (readP s = some (0, 0, 0)) := hid (by unfold readP; rw [if_pos h45])
   clear h45
   go_wp2_with fail
   go_meet
   exact ⟨_, HV, HR0⟩
  ·obtain rfl : b45 = false := HB45.out.trans (decide_eq_false h45)
   have HRD : Hid (readP s = foldO stepP (0, 0, 0) (pcs 44 s)) := hid (by unfold readP; rw [if_neg h45])
   clear h45
   go_wp2_with fail
   refine Calls.mono (HP.out W0 (HEV.out _ _ HR0.out)) ?_
   rintro e w1 ⟨rfl, hw1⟩
   have hne := pcs_ne 44 s
   have hmI : ((pcs 44 s).length : Int) ≤ 4294967282 := by
    have := pcs_cnt 44 s
    have := HSL.out
    omega
   have hlen : ∀ (i : Nat) (t : Bs), (pcs 44 s)[i]? = some t → t.length < 4294967281 := by
    intro i t ht
    have := pcs_len 44 s t (List.mem_of_getElem? ht)
    have := HSL.out
    omega
   obtain ⟨P, hP⟩ : ∃ P, pcs 44 s = P := ⟨_, rfl⟩
   rw [hP] at HRD hw1 hmI hlen ⊢
   obtain ⟨g, hg⟩ : ∃ g, W0.heap.size = g := ⟨_, rfl⟩
   have hb : Below W0.heap.size W0 w1 := be0 hw1
   have hszr := HR0.out.sz
   have HRW : Hid (RowAt g P w1) := hid (by
    refine ⟨by rw [hw1, ← hg]; simp, fun i t hi => ?_⟩
    rw [hw1, topCell _ _ _ g i hg.symm]
    have := txv_at hi
    simpa using this)
   have HR1 : Hid (RdW B (0, 0, 0) w w1) := hid (HR0.out.step hb hszr)
   have HLN := hid hlen
   obtain ⟨m, hm⟩ : ∃ m, P.length = m := ⟨_, rfl⟩
   have HM := hid hm
   have HGB : Hid (B + 2 ≤ g) := hid (by omega)
   rw [hm] at hmI ⊢
   rw [hg]
   clear hP hne hszr hb hm hw1 hlen hg
   go_wp2_with fail
   go_loopg [20] m (fun gh y wr => ∃ (j : Nat) (v : V3), j + gh = m ∧ y = .int .i64 (j : Int) ∧ Hid (foldO stepP (0, 0, 0) (P.take j) = some v) ∧ Hid (RdW B v w wr) ∧ Hid (RowAt g P wr))
   case atStart => exact ⟨0, (0, 0, 0), by omega, rfl, hid rfl, HR1, HRW⟩
   case round =>
    obtain ⟨j, v, hj, rfl, HF, HRD1, HRW1⟩ := hrel
    have HJ := hid hj
    by_cases hjm : j < m
    ·obtain ⟨x, hx⟩ : ∃ x, P[j]? = some x := ⟨_, List.getElem?_eq_getElem (by rw [HM.out]; exact hjm)⟩
     have HX := hid hx
     have hxl : x.length < 4294967281 := HLN.out j x hx
     obtain ⟨X, hX⟩ : ∃ X, bts x = X := ⟨_, rfl⟩
     have d1 := HRW1.out.at' j x hx
     rw [hX] at d1
     have hj1 : (0 : Int) ≤ (j : Int) := by omega
     have hj2 : (j : Int) < (m : Int) := by omega
     have HSP := hid (stepP_num v x)
     obtain ⟨nm, hnm⟩ : ∃ n, (cutB 61 x).1 = n := ⟨_, rfl⟩
     obtain ⟨nt, hnt⟩ : ∃ n, (cutB 61 x).2.1 = n := ⟨_, rfl⟩
     obtain ⟨nb, hnb⟩ : ∃ n, (cutB 61 x).2.2 = n := ⟨_, rfl⟩
     have hntl : nt.length ≤ 281474976710656 := by rw [← hnt]; have := cutB_len 61 x; omega
     have HCU : Hid (∀ W, Env W → Calls Tryz.prog 66 #[.string X, .string ⟨#[61]⟩] W fun e w' => e = .returned (.tuple #[.string (bts nm), .string (bts nt), .bool nb]) ∧ Below W.heap.size W w') := hid (fun W hW => by
      have := Cut_any x 61 W hxl hW
      rw [hnm, hnt, hnb, hX] at this
      exact this)
     have HPA : Hid (∀ W, Env W → Calls Tryz.prog 67 #[.string (bts nt), .int .i64 10, .int .i64 64] W (ParseQ W nt)) := hid (fun W hW => Parse_any nt W hntl hW)
     rw [hnm, hnt] at HSP
     obtain ⟨YtkemlckmfgacdaaGreatDoor, hNM⟩ : ∃ N, bts nm = N := ⟨_, rfl⟩
     obtain ⟨NT, hNT⟩ : ∃ N, bts nt = N := ⟨_, rfl⟩
     have HNM := hid hNM
     rw [hNM, hNT] at HCU
     rw [hNT] at HPA
     clear hx hX hj hjm hxl hnm hnt hnb hntl hNM hNT
     go_wp2_with fail
     refine Calls.mono (HCU.out _ (HEV.out _ _ HRD1.out)) ?_
     rintro e w2 ⟨rfl, hb2⟩
     have HRD2 : Hid (RdW B v w w2) := hid (HRD1.out.step hb2 HRD1.out.sz)
     have HRW2 : Hid (RowAt g P w2) := hid (HRW1.out.step hb2 HRW1.out.lt)
     clear hb2 d1
     go_wp2_with fail
     refine Calls.mono (HPA.out _ (HEV.out _ _ HRD2.out)) ?_
     rintro e w3 ⟨hb3, hq3⟩
     have HRD3 : Hid (RdW B v w w3) := hid (HRD2.out.step hb3 HRD2.out.sz)
     have HRW3 : Hid (RowAt g P w3) := hid (HRW2.out.step hb3 HRW2.out.lt)
     clear hb3
     cases hN : numB nt with
     | none =>
      rw [hN] at hq3
      obtain ⟨n, te, pe, rfl⟩ := hq3
      have HZN : Hid (Z = .tuple #[.agg #[.int .i64 0, .int .i64 0, .int .i64 0], .int .i64 3]) := hid (by rw [← HZ.out, rdVal_none (by rw [own_none (HRD.out.trans (foldO_stop HF.out HX.out (by rw [HSP.out, hN])))])])
      clear hN
      have HRES := HRD3.out
      have c0 := HRES.res 0 (by decide)
      have c1 := HRES.res 1 (by decide)
      have c2 := HRES.res 2 (by decide)
      have f0 := HRES.rf 0
      have f1 := HRES.rf 1
      have f2 := HRES.rf 2
      have HBL := hid HRES.below
      clear HRES
      go_wp2_with fail
      refine bodyPost_ret (v := .tuple #[.agg #[.int .i64 0, .int .i64 0, .int .i64 0], .int .i64 3]) (by simp [results, Tryz.results33, go_sem, cell_set, c0, c1, c2, f0, f1, f2]) rfl ⟨by rw [← HZN.out], (((HBL.out.setCell (p := ⟨B, 0, none⟩) lr _).setCell (p := ⟨B, 1, none⟩) lr _).setCell (p := ⟨B, 2, none⟩) lr _).mono (by have := HB.out; omega)⟩
     | some n =>
      rw [hN] at hq3
      obtain rfl := hq3
      by_cases h0 : n ≤ 0
      ·
       have HZN : Hid (Z = .tuple #[.agg #[.int .i64 0, .int .i64 0, .int .i64 0], .int .i64 3]) := hid (by rw [← HZ.out, rdVal_none (by rw [own_none (HRD.out.trans (foldO_stop HF.out HX.out (by rw [HSP.out, hN]; exact if_pos h0)))])])
       clear hN
       have HRES := HRD3.out
       have c0 := HRES.res 0 (by decide)
       have c1 := HRES.res 1 (by decide)
       have c2 := HRES.res 2 (by decide)
       have f0 := HRES.rf 0
       have f1 := HRES.rf 1
       have f2 := HRES.rf 2
       have HBL := hid HRES.below
       clear HRES
       go_wp2_with fail
       refine bodyPost_ret (v := .tuple #[.agg #[.int .i64 0, .int .i64 0, .int .i64 0], .int .i64 3]) (by simp [results, Tryz.results33, go_sem, cell_set, c0, c1, c2, f0, f1, f2]) rfl ⟨by rw [← HZN.out], (((HBL.out.setCell (p := ⟨B, 0, none⟩) lr _).setCell (p := ⟨B, 1, none⟩) lr _).setCell (p := ⟨B, 2, none⟩) lr _).mono (by have := HB.out; omega)⟩
      ·obtain ⟨u, rfl⟩ : ∃ u : Nat, n = (u : Int) := ⟨n.toNat, by omega⟩
       have HVV : Hid (stepP v x = some (setV v nm u)) := hid (by rw [HSP.out, hN]; simp only; rw [if_neg h0, Int.toNat_natCast])
       obtain ⟨q, hq⟩ : ∃ q, w3.heap.size = q := ⟨_, rfl⟩
       obtain ⟨W4, hW4⟩ : ∃ W, W = (w3.alloc (.cells #[.string ⟨#[99, 112, 117]⟩, .pointer (some ⟨B + 1, 0, none⟩), .string ⟨#[109, 101, 109]⟩, .pointer (some ⟨B + 1, 1, none⟩), .string ⟨#[103, 112, 117]⟩, .pointer (some ⟨B + 1, 2, none⟩)] 107)).drew := ⟨_, rfl⟩
       have hb4 : Below w3.heap.size w3 W4 := by rw [hW4]; exact ((Below.refl _ _).alloc lr _).drew
       have HRD4 : Hid (RdW B v w W4) := hid (HRD3.out.step hb4 HRD3.out.sz)
       have HRW4 : Hid (RowAt g P W4) := hid (HRW3.out.step hb4 HRW3.out.lt)
       have HPT4 : Hid (PtsAt q (B + 1) W4) := hid (by rw [hW4]; exact PtsAt.start hq)
       have HQB : Hid (B + 2 ≤ q ∧ g < q) := hid ⟨by have := HRD3.out.sz; omega, by have := HRW3.out.lt; omega⟩
       have HQ := hid hq
       clear hN hb4 hq
       go_wp2_with (go_at_call 68; refine (parts_any _ _).mono ?_; rintro e w' ⟨rfl, rfl⟩)
       rw [← hW4, HQ.out]
       clear hW4
       go_loopg [44] 3 (fun gh y wr2 => ∃ k : Nat, k + gh = 3 ∧ y = .int .i64 (k : Int) ∧ Hid (RdW B (setK v nm u k) w wr2) ∧ Hid (RowAt g P wr2) ∧ Hid (PtsAt q (B + 1) wr2))
       case atStart => exact ⟨0, rfl, rfl, hid (by rw [setK_zero]; exact HRD4.out), HRW4, HPT4⟩
       case round =>
        obtain ⟨k, hk, rfl, HRD5, HRW5, HPT5⟩ := hrel
        have HK := hid hk
        by_cases hk3 : k < 3
        ·have hk1 : (0 : Int) ≤ (k : Int) := by omega
         have hk2 : (k : Int) < 3 := by omega
         have HK3 := hid hk3
         have d2 := HPT5.out.nm k hk3
         have d3 := HPT5.out.pt k hk3
         obtain ⟨NK, hNK⟩ : ∃ N, bts (nmN k) = N := ⟨_, rfl⟩
         rw [hNK] at d2
         obtain ⟨cb, hcb⟩ : ∃ b, (NK.toList == YtkemlckmfgacdaaGreatDoor.toList) = b := ⟨_, rfl⟩
         have HCB : Hid (cb = decide (nmN k = nm)) := hid (by rw [← hcb, ← hNK, ← HNM.out, bts_eq])
         obtain ⟨r, hr⟩ : ∃ r, wr.heap.size = r := ⟨_, rfl⟩
         obtain ⟨W6, hW6⟩ : ∃ W, W = wr.alloc (.cells #[.string NK, .pointer (some ⟨B + 1, k, none⟩)] 107) := ⟨_, rfl⟩
         have hb6 : Below wr.heap.size wr W6 := be0 hW6
         have HRD6 : Hid (RdW B (setK v nm u k) w W6) := hid (HRD5.out.step hb6 HRD5.out.sz)
         have HRW6 : Hid (RowAt g P W6) := hid (HRW5.out.step hb6 HRW5.out.lt)
         have HPT6 : Hid (PtsAt q (B + 1) W6) := hid (HPT5.out.step hb6 HPT5.out.lt)
         have m0 : W6.cell? ⟨r, 0, none⟩ = some (.string NK) := by rw [hW6]; exact (topCell _ _ _ r 0 hr.symm).trans rfl
         have m1 : W6.cell? ⟨r, 1, none⟩ = some (.pointer (some ⟨B + 1, k, none⟩)) := by rw [hW6]; exact (topCell _ _ _ r 1 hr.symm).trans rfl
         have HR := hid hr
         clear hk hk3 hNK hb6 hr
         go_upto_region 13 with fail
         rw [← hW6, HR.out]
         clear hW6 d2 d3
         cases cb with
         | true =>
          have hnm : nmN k = nm := of_decide_eq_true HCB.out.symm
          have d9 := HRD6.out.nums k HK3.out
          have f9 := HRD6.out.nf k
          have HRD7 := hid (HRD6.out.putK HK3.out hnm)
          clear hnm
          go_wp2_with fail
          go_roundg (2 - k)
          case measure => (have := HK.out; have := HK3.out; omega)
          case rel => exact ⟨k + 1, by have := HK.out; have := HK3.out; omega, by simp, HRD7, hid (HRW6.out.put (by have := HGB.out; show B + 1 ≠ g; omega)), hid (HPT6.out.put (by have := HQB.out; show B + 1 ≠ q; omega))⟩
         | false =>
          have HRD7 : Hid (RdW B (setK v nm u (k + 1)) w W6) := hid (by rw [setK_no HK3.out (of_decide_eq_false HCB.out.symm)]; exact HRD6.out)
          go_wp2_with fail
          go_roundg (2 - k)
          case measure => (have := HK.out; have := HK3.out; omega)
          case rel => exact ⟨k + 1, by have := HK.out; have := HK3.out; omega, by simp, HRD7, HRW6, HPT6⟩
        ·obtain rfl : k = 3 := by omega
         have HF2 := hid (foldO_next HF.out HX.out HVV.out)
         have HRD8 : Hid (RdW B (setV v nm u) w wr) := hid (by have := HRD5.out; rwa [setK_three] at this)
         clear hk hk3
         go_wp2_with fail
         go_roundg (m - (j + 1))
         case measure => (have := HJ.out; omega)
         case rel => exact ⟨j + 1, setV v nm u, by have := HJ.out; omega, by simp, HF2, HRD8, HRW5⟩
    ·obtain rfl : j = m := by omega
     have HV : Hid (readP s = some v) := hid (by rw [HRD.out]; have := HF.out; rwa [← HM.out, List.take_length] at this)
     clear hj
     go_wp2_with fail
     go_meet
     exact ⟨_, HV, HRD1⟩
 case rest =>
  obtain ⟨v, HV, HRD⟩ := hcut
  obtain ⟨a, b, c⟩ := v
  have HCAN := readP_can HV.out
  have n0 : wc.cell? ⟨B + 1, 0, none⟩ = some (.int .i64 (a : Int)) := HRD.out.nums 0 (by decide)
  have n1 : wc.cell? ⟨B + 1, 1, none⟩ = some (.int .i64 (b : Int)) := HRD.out.nums 1 (by decide)
  have n2 : wc.cell? ⟨B + 1, 2, none⟩ = some (.int .i64 (c : Int)) := HRD.out.nums 2 (by decide)
  obtain ⟨T, hT⟩ : ∃ T, bts (needText (a, b, c)) = T := ⟨_, rfl⟩
  have HTX : Hid (∀ W, Env W → Calls Tryz.prog 57 #[.agg #[.int .i64 (a : Int), .int .i64 (b : Int), .int .i64 (c : Int)]] W fun e w' => e = .returned (.string T) ∧ Below W.heap.size W w') := hid (fun W hW => by rw [← hT]; exact text_any a b c HCAN W hW)
  obtain ⟨tb, htb⟩ : ∃ b, (T.toList == S.toList) = b := ⟨_, rfl⟩
  have HTB : Hid (tb = decide (needText (a, b, c) = s)) := hid (by rw [← htb, ← hT, ← HS.out, bts_eq])
  have HFA : Hid (∀ W, Calls Tryz.prog 39 #[.agg #[.int .i64 (a : Int), .int .i64 (b : Int), .int .i64 (c : Int)]] W fun e w' => e = .returned (.int .i64 (needE a b c)) ∧ Below W.heap.size W w') := hid (fun W => Check_any (a : Int) (b : Int) (c : Int) W)
  clear HCAN hT
  go_wp2_with fail
  refine Calls.mono (HTX.out _ (HEV.out _ _ HRD.out)) ?_
  rintro e w2 ⟨rfl, hb2⟩
  have HRD2 : Hid (RdW B (a, b, c) w w2) := hid (HRD.out.step hb2 HRD.out.sz)
  clear hb2 n0 n1 n2
  cases tb with
  | false =>
   have hne : ¬ needText (a, b, c) = s := of_decide_eq_false HTB.out.symm
   have HZN : Hid (Z = .tuple #[.agg #[.int .i64 0, .int .i64 0, .int .i64 0], .int .i64 3]) := hid (by rw [← HZ.out, rdVal_none (by rw [HV.out]; unfold own; exact if_neg hne)])
   have c0 := HRD2.out.res 0 (by decide)
   have c1 := HRD2.out.res 1 (by decide)
   have c2 := HRD2.out.res 2 (by decide)
   have f0 := HRD2.out.rf 0
   have f1 := HRD2.out.rf 1
   have f2 := HRD2.out.rf 2
   have HBL := hid HRD2.out.below
   have n0 : w2.cell? ⟨B + 1, 0, none⟩ = some (.int .i64 (a : Int)) := HRD2.out.nums 0 (by decide)
   have n1 : w2.cell? ⟨B + 1, 1, none⟩ = some (.int .i64 (b : Int)) := HRD2.out.nums 1 (by decide)
   have n2 : w2.cell? ⟨B + 1, 2, none⟩ = some (.int .i64 (c : Int)) := HRD2.out.nums 2 (by decide)
   clear hne
   go_wp2_with fail
   refine bodyPost_ret (v := .tuple #[.agg #[.int .i64 0, .int .i64 0, .int .i64 0], .int .i64 3]) (by simp [results, Tryz.results33, go_sem, cell_set, c0, c1, c2, f0, f1, f2, n0, n1, n2]) rfl ⟨by rw [← HZN.out], (((HBL.out.setCell (p := ⟨B, 0, none⟩) lr _).setCell (p := ⟨B, 1, none⟩) lr _).setCell (p := ⟨B, 2, none⟩) lr _).mono (by have := HB.out; omega)⟩
  | true =>
   have heq : needText (a, b, c) = s := of_decide_eq_true HTB.out.symm
   have HOW : Hid (own (readP s) s = some (a, b, c)) := hid (by rw [HV.out]; unfold own; exact if_pos heq)
   clear heq
   have n0 : w2.cell? ⟨B + 1, 0, none⟩ = some (.int .i64 (a : Int)) := HRD2.out.nums 0 (by decide)
   have n1 : w2.cell? ⟨B + 1, 1, none⟩ = some (.int .i64 (b : Int)) := HRD2.out.nums 1 (by decide)
   have n2 : w2.cell? ⟨B + 1, 2, none⟩ = some (.int .i64 (c : Int)) := HRD2.out.nums 2 (by decide)
   go_wp2_with fail
   refine Calls.mono (HFA.out _) ?_
   rintro e w3 ⟨rfl, hb3⟩
   have HRES : Hid (RdW B (a, b, c) w w3) := hid (HRD2.out.step hb3 HRD2.out.sz)
   clear hb3 n0 n1 n2
   have c0 := HRES.out.res 0 (by decide)
   have c1 := HRES.out.res 1 (by decide)
   have c2 := HRES.out.res 2 (by decide)
   have f0 := HRES.out.rf 0
   have f1 := HRES.out.rf 1
   have f2 := HRES.out.rf 2
   have HBL := hid HRES.out.below
   have n0 : w3.cell? ⟨B + 1, 0, none⟩ = some (.int .i64 (a : Int)) := HRES.out.nums 0 (by decide)
   have n1 : w3.cell? ⟨B + 1, 1, none⟩ = some (.int .i64 (b : Int)) := HRES.out.nums 1 (by decide)
   have n2 : w3.cell? ⟨B + 1, 2, none⟩ = some (.int .i64 (c : Int)) := HRES.out.nums 2 (by decide)
   cases hnb : needB (a : Int) b c with
   | false =>
    have HZN : Hid (Z = .tuple #[.agg #[.int .i64 0, .int .i64 0, .int .i64 0], .int .i64 4]) := hid (by rw [← HZ.out, rdVal_bad HOW.out hnb])
    have hE : needE (a : Int) b c = 4 := by unfold needE; rw [hnb]; rfl
    rw [hE]
    clear hnb hE
    go_wp2_with fail
    refine bodyPost_ret (v := .tuple #[.agg #[.int .i64 0, .int .i64 0, .int .i64 0], .int .i64 4]) (by simp [results, Tryz.results33, go_sem, cell_set, c0, c1, c2, f0, f1, f2, n0, n1, n2]) rfl ⟨by rw [← HZN.out], (((HBL.out.setCell (p := ⟨B, 0, none⟩) lr _).setCell (p := ⟨B, 1, none⟩) lr _).setCell (p := ⟨B, 2, none⟩) lr _).mono (by have := HB.out; omega)⟩
   | true =>
    have HZN : Hid (Z = .tuple #[.agg #[.int .i64 (a : Int), .int .i64 (b : Int), .int .i64 (c : Int)], .int .i64 0]) := hid (by rw [← HZ.out, rdVal_ok HOW.out hnb])
    have hE : needE (a : Int) b c = 0 := by unfold needE; rw [hnb]; rfl
    rw [hE]
    clear hnb hE
    go_wp2_with fail
    refine bodyPost_ret (v := .tuple #[.agg #[.int .i64 (a : Int), .int .i64 (b : Int), .int .i64 (c : Int)], .int .i64 0]) (by simp [results, Tryz.results33, go_sem, cell_set, c0, c1, c2, f0, f1, f2, n0, n1, n2]) rfl ⟨by rw [← HZN.out], (((HBL.out.setCell (p := ⟨B, 0, none⟩) lr _).setCell (p := ⟨B, 1, none⟩) lr _).setCell (p := ⟨B, 2, none⟩) lr _).mono (by have := HB.out; omega)⟩
end Go.Proofs.YtkemlckmfgacdaaGreatDoor
namespace Go.Proofs.YtkemlckmfgacdaaGreatDoor
set_option maxRecDepth 20000
set_option maxHeartbeats 64000000
open Go.ChangeShapes Go.WideShapes Go.ChangeAt Go.RowKit
set_option linter.unusedVariables false
set_option linter.unusedSimpArgs false
open Tp Nt
def txtOf (a b c : Int) : ByteArray := if needB a b c then bts (needText (a.toNat, b.toNat, c.toNat)) else ⟨#[]⟩
theorem can_of {a b c : Int} (h : needB a b c = true) : Nt.Can (a.toNat, b.toNat, c.toNat) := by
 obtain ⟨h1, h2, h3⟩ := needB_yes h
 exact ⟨by show a.toNat < _; omega, by show b.toNat < _; omega, by show c.toNat < _; omega⟩
theorem Text_any (a b c : Int) (w : World) (he : Env w) : Calls Tryz.prog 26 #[.agg #[.int .i64 a, .int .i64 b, .int .i64 c]] w fun e w' => e = .returned (.tuple #[.string (txtOf a b c), .int .i64 (needE a b c)]) ∧ Below w.heap.size w w' := by
 obtain ⟨W0, hW0⟩ : ∃ W, W = w.alloc (.cells #[.int .i64 a, .int .i64 b, .int .i64 c] 23) := ⟨_, rfl⟩
 obtain ⟨B, hB⟩ : ∃ B, w.heap.size = B := ⟨_, rfl⟩
 have hb : Below w.heap.size w W0 := be0 hW0
 have m0 : W0.cell? ⟨B, 0, none⟩ = some (.int .i64 a) := by rw [hW0]; exact (topCell _ _ _ B 0 hB.symm).trans rfl
 have m1 : W0.cell? ⟨B, 1, none⟩ = some (.int .i64 b) := by rw [hW0]; exact (topCell _ _ _ B 1 hB.symm).trans rfl
 have m2 : W0.cell? ⟨B, 2, none⟩ = some (.int .i64 c) := by rw [hW0]; exact (topCell _ _ _ B 2 hB.symm).trans rfl
 have hBl : B < W0.heap.size := by rw [hW0, ← hB]; simp
 have HE0 := hid (he.below hb lr)
 have HBL := hid hb
 have HB := hid hB
 cases hn : needB a b c with
 | false =>
  have HT : Hid ((⟨#[]⟩ : ByteArray) = txtOf a b c) := hid (by unfold txtOf; rw [hn]; rfl)
  have hE : needE a b c = 4 := by unfold needE; rw [hn]; rfl
  have HC := hid (fun W => Check_any a b c W)
  rw [hE] at HC ⊢
  rw [← HT.out]
  clear hn hE he hb
  go_enter Tryz.func26, Tryz.ntmps26
  go_upto_region 1 with fail
  rw [← hW0]
  clear hW0
  clear hB
  go_wp2_with fail
  refine Calls.mono (HC.out _) ?_
  rintro e w1 ⟨rfl, hb1⟩
  have HB1 := hid hb1
  clear hb1
  go_wp2_with fail
  go_ret2
  exact ⟨rfl, HBL.out.trans (HB1.out.mono HBL.out.size)⟩
 | true =>
  have hE : needE a b c = 0 := by unfold needE; rw [hn]; rfl
  have HC := hid (fun W => Check_any a b c W)
  have hcan := can_of hn
  obtain ⟨b1, b2, b3⟩ := needB_yes hn
  have HX : Hid (∀ W, Env W → Calls Tryz.prog 57 #[.agg #[.int .i64 a, .int .i64 b, .int .i64 c]] W fun e w' => e = .returned (.string (txtOf a b c)) ∧ Below W.heap.size W w') := hid (fun W hW => by
   have := text_any a.toNat b.toNat c.toNat hcan W hW
   rw [show ((a.toNat : Nat) : Int) = a from by omega, show ((b.toNat : Nat) : Int) = b from by omega, show ((c.toNat : Nat) : Int) = c from by omega] at this
   unfold txtOf
   rw [hn]
   exact this)
  obtain ⟨T, hT⟩ : ∃ T, txtOf a b c = T := ⟨_, rfl⟩
  rw [hT] at HX ⊢
  rw [hE] at HC ⊢
  clear hn hE he hb hcan b1 b2 b3 hT
  go_enter Tryz.func26, Tryz.ntmps26
  go_upto_region 1 with fail
  rw [← hW0]
  clear hW0
  clear hB
  go_wp2_with fail
  refine Calls.mono (HC.out _) ?_
  rintro e w1 ⟨rfl, hb1⟩
  replace m0 := (hb1.cell (p := ⟨B, 0, none⟩) hBl).trans m0
  replace m1 := (hb1.cell (p := ⟨B, 1, none⟩) hBl).trans m1
  replace m2 := (hb1.cell (p := ⟨B, 2, none⟩) hBl).trans m2
  have HB1 := hid hb1
  clear hb1
  go_wp2_with fail
  refine Calls.mono (HX.out _ (HE0.out.below HB1.out lr)) ?_
  rintro e w2 ⟨rfl, hb2⟩
  have HB2 := hid hb2
  clear hb2
  go_wp2_with fail
  go_ret2
  exact ⟨rfl, HBL.out.trans ((HB1.out.trans (HB2.out.mono HB1.out.size)).mono HBL.out.size)⟩
end Go.Proofs.YtkemlckmfgacdaaGreatDoor
