/- Contract: the document's EventOf. -/
import Derived.Test.YtkemlckmfgacdaaGreatDoorJnP44
import Derived.Deep.Light
import Derived.Deep.RegionWith
import Derived.Deep.RegionHeld3
namespace Go.Proofs.YtkemlckmfgacdaaGreatDoor
set_option maxRecDepth 20000
set_option maxHeartbeats 64000000
open Go.ChangeShapes Go.WideShapes Go.ChangeAt Go.RowKit
set_option linter.unusedVariables false
set_option linter.unusedSimpArgs false
open Tp Jm Ev
theorem eventOf_5y (k : UInt8) (r : Bs) (a : Option Addr) (m cap : Nat) (w : World) (hm : r.length = m) (hl : m ≤ 2000) (hcap : m + 1 ≤ cap) (hmax : cap ≤ 9223372036854775807) (hs : BytA w a (k :: r)) (hq : k.toNat = 5) (hmm : m = 2) : Calls Tryz.prog 19 #[.slice a (m + 1) cap] w (DecQ w (rd (k :: r)) 3) := by
 obtain ⟨C, hC⟩ : ∃ B, B = w.heap.size := ⟨_, rfl⟩
 obtain ⟨W0, hW0⟩ : ∃ W, W = w.alloc (.cells #[.int .i64 0, .string ⟨#[]⟩, .int .i64 0, .int .i64 0, .int .i64 0, .int .i64 0, .int .i64 0, .string ⟨#[]⟩, .string ⟨#[]⟩, .int .i64 0, .slice none 0 0, .slice none 0 0, .int .i64 0, .int .i64 0, .bool false] 40) := ⟨_, rfl⟩
 have HBC0 : Hid (BoxV C [.int .i64 0, .string ⟨#[]⟩, .int .i64 0, .int .i64 0, .int .i64 0, .int .i64 0, .int .i64 0, .string ⟨#[]⟩, .string ⟨#[]⟩, .int .i64 0, .slice none 0 0, .slice none 0 0, .int .i64 0, .int .i64 0, .bool false] W0) := hid (by rw [hW0]; exact BoxV.top _ hC)
 have hb0 : Below w.heap.size w W0 := be0 hW0
 have HB0 : Hid (Below w.heap.size w W0) := hid hb0
 have HC : Hid (C = w.heap.size) := hid hC
 obtain ⟨bl, off, rfl, hbl, hcells⟩ := hs.cell (i := 0) (c := k) rfl
 have hcell : W0.cell? ⟨bl, off, none⟩ = some (.int .u8 (k.toNat : Int)) := (hb0.cell (p := ⟨bl, off, none⟩) hbl).trans (hcells 0 k rfl)
 have HBY : Hid (BytA w (some ⟨bl, off, none⟩) (k :: r)) := hid hs
 obtain ⟨J, hJ⟩ : ∃ J, J = W0.heap.size := ⟨_, rfl⟩
 have hbl0 : bl < W0.heap.size := Nat.lt_of_lt_of_le hbl hb0.size
 have HBLJ : Hid (bl < J) := hid (by rw [hJ]; exact hbl0)
 obtain ⟨O, hO⟩ : ∃ O, rd (k :: r) = O := ⟨_, rfl⟩
 rw [hO]
 rw [show (k.toNat : Int) = 5 by omega] at hcell
 obtain ⟨W1, hW1⟩ : ∃ W, W = W0.alloc (.cells #[.int .i64 5, .string ⟨#[]⟩, .int .i64 0, .int .i64 0, .int .i64 0, .int .i64 0, .int .i64 0, .string ⟨#[]⟩, .string ⟨#[]⟩, .int .i64 0, .slice none 0 0, .slice none 0 0, .int .i64 0, .int .i64 0, .bool false] 40) := ⟨_, rfl⟩
 have hb1 : Below W0.heap.size W0 W1 := be0 hW1
 have HJW : Hid (w.heap.size ≤ J ∧ J ≠ C) := hid ⟨by rw [hJ]; exact HB0.out.size, by rw [hJ]; exact Nat.ne_of_gt HBC0.out.lt⟩
 have HB1 : Hid (Below w.heap.size w W1) := hid (HB0.out.trans (hb1.mono HB0.out.size))
 have HBC1 := hid (HBC0.out.step hb1)
 have HBJ1 : Hid (BoxV J [.int .i64 5, .string ⟨#[]⟩, .int .i64 0, .int .i64 0, .int .i64 0, .int .i64 0, .int .i64 0, .string ⟨#[]⟩, .string ⟨#[]⟩, .int .i64 0, .slice none 0 0, .slice none 0 0, .int .i64 0, .int .i64 0, .bool false] W1) := hid (by rw [hW1]; exact BoxV.top _ hJ)
 have hm0 : ¬ ((m : Int) + 1 = 0) := by omega
 have hm1 : (((m : Int) + 1) == 0) = false := by simpa using hm0
 have hm3 : ¬ (3001 : Int) < (m : Int) + 1 := by omega
 have hm4 : (0 : Int) < (m : Int) + 1 := by omega
 have hm5 : (1 : Int) ≤ (m : Int) + 1 := by omega
 have hm6 : (m : Int) + 1 ≤ (cap : Int) := by omega
 have HM := hid hm
 have HL := hid hl
 have HQ := hid hq
 have HCP := hid hcap
 have hcell1 : W1.cell? ⟨bl, off, none⟩ = some (.int .u8 5) := (hb1.cell (p := ⟨bl, off, none⟩) hbl0).trans hcell
 have HBY1 := hid (HBY.out.below HB1.out)
 have hbl1 : bl < W1.heap.size := Nat.lt_of_lt_of_le hbl0 hb1.size
 obtain ⟨q, hqq⟩ : ∃ q, (if cap = 1 then some (⟨bl, off, none⟩ : Addr) else some ⟨bl, off + 1, none⟩) = some ⟨bl, q, none⟩ := by
  by_cases h : cap = 1
  ·exact ⟨off, by rw [if_pos h]⟩
  ·exact ⟨off + 1, by rw [if_neg h]⟩
 have HBR : Hid (BytA w (some ⟨bl, q, none⟩) r) := hid (by
  rw [← hqq]
  by_cases h : cap = 1
  ·have hr : r = [] := List.eq_nil_of_length_eq_zero (by omega)
   rw [hr]
   exact BytA.nil _ _
  ·rw [if_neg h]
   exact HBY.out.drop 1)
 have HQP := hid hqq
 have HO := hid hO
 clear hm hl hcap hmax hs hcells hbl hb0 hb1 hO hq hqq
 go_enter Tryz.func19, Tryz.ntmps19
 go_upto_region 1 with fail
 rw [← hW0, ← hC]
 clear hW0 hC
 go_upto_region 7 with fail
 rw [← hW1, ← hJ]
 clear hW1 hJ hcell hbl0
 subst hmm
 obtain ⟨N, hN⟩ : ∃ N, numI (r) = N := ⟨_, rfl⟩
 have HVA := hid (value_any (r) (some ⟨bl, off + 1, none⟩) 2 (cap - 1) W1 HM.out (by decide) (by have h := (HBY.out.below HB1.out).drop 1; exact h))
 rw [hN] at HVA
 have hcapn : ¬ cap = 1 := by have := HCP.out; omega
 have hcap3 : (3 : Int) ≤ (cap : Int) := by have := HCP.out; omega
 obtain ⟨W2, hW2⟩ : ∃ W, (W1.setCell ⟨J, 13, none⟩ (.int .i64 N)) = W := ⟨_, rfl⟩
 have HB2 : Hid (Below w.heap.size w W2) := hid (by rw [← hW2]; exact (HB1.out).setCell (p := ⟨J, 13, none⟩) HJW.out.1 _)
 have HBC2 : Hid (BoxV C [.int .i64 0, .string ⟨#[]⟩, .int .i64 0, .int .i64 0, .int .i64 0, .int .i64 0, .int .i64 0, .string ⟨#[]⟩, .string ⟨#[]⟩, .int .i64 0, .slice none 0 0, .slice none 0 0, .int .i64 0, .int .i64 0, .bool false] W2) := hid (by rw [← hW2]; exact (HBC1.out).other (a := ⟨J, 13, none⟩) HJW.out.2 _)
 have HBJ2 : Hid (BoxV J [.int .i64 5, .string ⟨#[]⟩, .int .i64 0, .int .i64 0, .int .i64 0, .int .i64 0, .int .i64 0, .string ⟨#[]⟩, .string ⟨#[]⟩, .int .i64 0, .slice none 0 0, .slice none 0 0, .int .i64 0, .int .i64 N, .bool false] W2) := hid (by rw [← hW2]; exact (HBJ1.out).set 13 _)
 obtain ⟨j0, j1, j2, j3, j4, j5, j6, j7, j8, j9, j10, j11, j12, j13, j14⟩ := HBJ1.out.c15
 obtain ⟨jf0, jf1, jf2, jf3, jf4, jf5, jf6, jf7, jf8, jf9, jf10, jf11, jf12, jf13, jf14⟩ := HBJ1.out.f15
 have hjl := HBJ1.out.lt
 go_wp2_with fail
 refine Calls.mono HVA.out ?_
 rintro e w2 ⟨rfl, hw2⟩
 subst hw2
 go_upto_region 27 with fail
 clear hW2
 clear hjl j0 jf0 j1 jf1 j2 jf2 j3 jf3 j4 jf4 j5 jf5 j6 jf6 j7 jf7 j8 jf8 j9 jf9 j10 jf10 j11 jf11 j12 jf12 j13 jf13 j14 jf14
 have HJN : Hid (JobN (C + 1) W2 zJb (jobVal ⟨#[]⟩ 0 0 0 0 0 ⟨#[]⟩ ⟨#[]⟩ 0 none 0 0 none 0 0)) := hid (JobN.zero _ _)
 have HCQ : Hid (C < C + 1) := hid (Nat.lt_succ_self _)
 obtain ⟨f, hf⟩ : ∃ f, (⟨5, zJb, 0, N, false⟩ : Evt).fault = f := ⟨_, rfl⟩
 have HOO : Hid (O = if f = 0 then some (⟨5, zJb, 0, N, false⟩) else none) := hid (rd_fault HO.out (by rw [← hN]; unfold rd; simp only; rw [if_neg (by rw [HQ.out]; decide), if_neg (by rw [HQ.out]; decide), if_neg (by rw [HQ.out]; decide), if_neg (by rw [HQ.out]; decide), if_pos HQ.out, if_pos HM.out]) hf)
 have HYS : Hid ((⟨5, zJb, 0, N, false⟩ : Evt).job.ask.size ≤ 1000000000) := hid (zsize)
 clear hN
 have HEN0 := evFault_any (⟨5, zJb, 0, N, false⟩) _ W2 HYS.out (EvV.ofJob (y := ⟨5, zJb, 0, N, false⟩) HJN.out)
 rw [hf] at HEN0
 have HEN : Hid (Calls Tryz.prog 15 #[.agg #[.int .i64 5, .string ⟨#[]⟩, .int .i64 0, .int .i64 0, .int .i64 0, .int .i64 0, .int .i64 0, .string ⟨#[]⟩, .string ⟨#[]⟩, .int .i64 0, .slice none 0 0, .slice none 0 0, .int .i64 0, .int .i64 N, .bool false]] W2 fun e w' => e = .returned (.int .i64 f) ∧ Below W2.heap.size W2 w') := hid HEN0
 clear HEN0 hf
 obtain ⟨j0, j1, j2, j3, j4, j5, j6, j7, j8, j9, j10, j11, j12, j13, j14⟩ := HBJ2.out.c15
 obtain ⟨jf0, jf1, jf2, jf3, jf4, jf5, jf6, jf7, jf8, jf9, jf10, jf11, jf12, jf13, jf14⟩ := HBJ2.out.f15
 have hjl := HBJ2.out.lt
 go_wp2_with fail
 refine Calls.mono HEN.out ?_
 rintro e W5 ⟨rfl, hbn⟩
 have HB5 : Hid (Below w.heap.size w W5) := hid (HB2.out.trans (hbn.mono HB2.out.size))
 have HBC5 := hid (HBC2.out.step hbn)
 have HBJ5 : Hid (BoxV J [.int .i64 5, .string ⟨#[]⟩, .int .i64 0, .int .i64 0, .int .i64 0, .int .i64 0, .int .i64 0, .string ⟨#[]⟩, .string ⟨#[]⟩, .int .i64 0, .slice none 0 0, .slice none 0 0, .int .i64 0, .int .i64 N, .bool false] W5) := hid (HBJ2.out.step hbn)
 have HJN5 := hid (HJN.out.keep hbn.size (fun b _ hb => hbn.block b hb))
 clear hbn
 clear hjl j0 jf0 j1 jf1 j2 jf2 j3 jf3 j4 jf4 j5 jf5 j6 jf6 j7 jf7 j8 jf8 j9 jf9 j10 jf10 j11 jf11 j12 jf12 j13 jf13 j14 jf14
 by_cases h0 : f = 0
 ·subst h0
  have HP : Hid (O = some (⟨5, zJb, 0, N, false⟩)) := hid (by rw [HOO.out]; rfl)
  go_upto_region 29 with fail
  have HKX := KR.of (P := Tryz.prog) (by assumption)
  go_light
  obtain ⟨r0, r1, r2, r3, r4, r5, r6, r7, r8, r9, r10, r11, r12, r13, r14⟩ := HBC5.out.c15
  obtain ⟨rf0, rf1, rf2, rf3, rf4, rf5, rf6, rf7, rf8, rf9, rf10, rf11, rf12, rf13, rf14⟩ := HBC5.out.f15
  have hcl := HBC5.out.lt
  obtain ⟨e0, e1, e2, e3, e4, e5, e6, e7, e8, e9, e10, e11, e12, e13, e14⟩ := HBJ5.out.c15
  have hjl := HBJ5.out.lt
  go_wp2_with fail
  refine HKX.fin ?_
  refine bodyPost_ret (v := .tuple #[.agg #[.int .i64 5, .string ⟨#[]⟩, .int .i64 0, .int .i64 0, .int .i64 0, .int .i64 0, .int .i64 0, .string ⟨#[]⟩, .string ⟨#[]⟩, .int .i64 0, .slice none 0 0, .slice none 0 0, .int .i64 0, .int .i64 N, .bool false], .int .i64 0]) (by simp [results, Tryz.results19, go_sem, cell_set, r0, r1, r2, r3, r4, r5, r6, r7, r8, r9, r10, r11, r12, r13, r14, hcl]) rfl ?_
  show DecQ w O 3 _ (puts W5 C 0 [.int .i64 5, .string ⟨#[]⟩, .int .i64 0, .int .i64 0, .int .i64 0, .int .i64 0, .int .i64 0, .string ⟨#[]⟩, .string ⟨#[]⟩, .int .i64 0, .slice none 0 0, .slice none 0 0, .int .i64 0, .int .i64 N, .bool false])
  rw [HP.out]
  exact ⟨puts_below C (Nat.le_of_eq HC.out.symm) _ _ _ HB5.out, _, rfl, EvN.ofJob (JobN.low (JobN.keep HJN5.out (Nat.le_of_eq (puts_size _ _ _ _).symm) (fun b hb _ => puts_heap C (Nat.ne_of_gt (Nat.lt_of_lt_of_le HCQ.out hb)) _ _ _)) (by rw [← HC.out]; exact Nat.le_of_lt HCQ.out))⟩
 ·have hz : (f == 0) = false := by simpa using h0
  have hz2 : (f != 0) = true := by simpa using h0
  have HP : Hid (O = none) := hid (by rw [HOO.out]; exact if_neg h0)
  clear h0
  go_upto_region 28 with fail
  have HKX := KR.of (P := Tryz.prog) (by assumption)
  go_light
  obtain ⟨r0, r1, r2, r3, r4, r5, r6, r7, r8, r9, r10, r11, r12, r13, r14⟩ := HBC5.out.c15
  obtain ⟨rf0, rf1, rf2, rf3, rf4, rf5, rf6, rf7, rf8, rf9, rf10, rf11, rf12, rf13, rf14⟩ := HBC5.out.f15
  have hcl := HBC5.out.lt
  go_wp2_with fail
  refine HKX.fin ?_
  refine bodyPost_ret (v := .tuple #[.agg #[.int .i64 0, .string ⟨#[]⟩, .int .i64 0, .int .i64 0, .int .i64 0, .int .i64 0, .int .i64 0, .string ⟨#[]⟩, .string ⟨#[]⟩, .int .i64 0, .slice none 0 0, .slice none 0 0, .int .i64 0, .int .i64 0, .bool false], .int .i64 3]) (by simp [results, Tryz.results19, go_sem, cell_set, r0, r1, r2, r3, r4, r5, r6, r7, r8, r9, r10, r11, r12, r13, r14, hcl]) rfl ?_
  show DecQ w O 3 _ (puts W5 C 0 [.int .i64 0, .string ⟨#[]⟩, .int .i64 0, .int .i64 0, .int .i64 0, .int .i64 0, .int .i64 0, .string ⟨#[]⟩, .string ⟨#[]⟩, .int .i64 0, .slice none 0 0, .slice none 0 0, .int .i64 0, .int .i64 0, .bool false])
  rw [HP.out]
  exact ⟨puts_below C (Nat.le_of_eq HC.out.symm) _ _ _ HB5.out, rfl⟩
theorem eventOf_5n (k : UInt8) (r : Bs) (a : Option Addr) (m cap : Nat) (w : World) (hm : r.length = m) (hl : m ≤ 2000) (hcap : m + 1 ≤ cap) (hmax : cap ≤ 9223372036854775807) (hs : BytA w a (k :: r)) (hq : k.toNat = 5) (hm9 : ¬ m = 2) : Calls Tryz.prog 19 #[.slice a (m + 1) cap] w (DecQ w (rd (k :: r)) 3) := by
 obtain ⟨C, hC⟩ : ∃ B, B = w.heap.size := ⟨_, rfl⟩
 obtain ⟨W0, hW0⟩ : ∃ W, W = w.alloc (.cells #[.int .i64 0, .string ⟨#[]⟩, .int .i64 0, .int .i64 0, .int .i64 0, .int .i64 0, .int .i64 0, .string ⟨#[]⟩, .string ⟨#[]⟩, .int .i64 0, .slice none 0 0, .slice none 0 0, .int .i64 0, .int .i64 0, .bool false] 40) := ⟨_, rfl⟩
 have HBC0 : Hid (BoxV C [.int .i64 0, .string ⟨#[]⟩, .int .i64 0, .int .i64 0, .int .i64 0, .int .i64 0, .int .i64 0, .string ⟨#[]⟩, .string ⟨#[]⟩, .int .i64 0, .slice none 0 0, .slice none 0 0, .int .i64 0, .int .i64 0, .bool false] W0) := hid (by rw [hW0]; exact BoxV.top _ hC)
 have hb0 : Below w.heap.size w W0 := be0 hW0
 have HB0 : Hid (Below w.heap.size w W0) := hid hb0
 have HC : Hid (C = w.heap.size) := hid hC
 obtain ⟨bl, off, rfl, hbl, hcells⟩ := hs.cell (i := 0) (c := k) rfl
 have hcell : W0.cell? ⟨bl, off, none⟩ = some (.int .u8 (k.toNat : Int)) := (hb0.cell (p := ⟨bl, off, none⟩) hbl).trans (hcells 0 k rfl)
 have HBY : Hid (BytA w (some ⟨bl, off, none⟩) (k :: r)) := hid hs
 obtain ⟨J, hJ⟩ : ∃ J, J = W0.heap.size := ⟨_, rfl⟩
 have hbl0 : bl < W0.heap.size := Nat.lt_of_lt_of_le hbl hb0.size
 have HBLJ : Hid (bl < J) := hid (by rw [hJ]; exact hbl0)
 obtain ⟨O, hO⟩ : ∃ O, rd (k :: r) = O := ⟨_, rfl⟩
 rw [hO]
 rw [show (k.toNat : Int) = 5 by omega] at hcell
 obtain ⟨W1, hW1⟩ : ∃ W, W = W0.alloc (.cells #[.int .i64 5, .string ⟨#[]⟩, .int .i64 0, .int .i64 0, .int .i64 0, .int .i64 0, .int .i64 0, .string ⟨#[]⟩, .string ⟨#[]⟩, .int .i64 0, .slice none 0 0, .slice none 0 0, .int .i64 0, .int .i64 0, .bool false] 40) := ⟨_, rfl⟩
 have hb1 : Below W0.heap.size W0 W1 := be0 hW1
 have HJW : Hid (w.heap.size ≤ J ∧ J ≠ C) := hid ⟨by rw [hJ]; exact HB0.out.size, by rw [hJ]; exact Nat.ne_of_gt HBC0.out.lt⟩
 have HB1 : Hid (Below w.heap.size w W1) := hid (HB0.out.trans (hb1.mono HB0.out.size))
 have HBC1 := hid (HBC0.out.step hb1)
 have HBJ1 : Hid (BoxV J [.int .i64 5, .string ⟨#[]⟩, .int .i64 0, .int .i64 0, .int .i64 0, .int .i64 0, .int .i64 0, .string ⟨#[]⟩, .string ⟨#[]⟩, .int .i64 0, .slice none 0 0, .slice none 0 0, .int .i64 0, .int .i64 0, .bool false] W1) := hid (by rw [hW1]; exact BoxV.top _ hJ)
 have hm0 : ¬ ((m : Int) + 1 = 0) := by omega
 have hm1 : (((m : Int) + 1) == 0) = false := by simpa using hm0
 have hm3 : ¬ (3001 : Int) < (m : Int) + 1 := by omega
 have hm4 : (0 : Int) < (m : Int) + 1 := by omega
 have hm5 : (1 : Int) ≤ (m : Int) + 1 := by omega
 have hm6 : (m : Int) + 1 ≤ (cap : Int) := by omega
 have HM := hid hm
 have HL := hid hl
 have HQ := hid hq
 have HCP := hid hcap
 have hcell1 : W1.cell? ⟨bl, off, none⟩ = some (.int .u8 5) := (hb1.cell (p := ⟨bl, off, none⟩) hbl0).trans hcell
 have HBY1 := hid (HBY.out.below HB1.out)
 have hbl1 : bl < W1.heap.size := Nat.lt_of_lt_of_le hbl0 hb1.size
 obtain ⟨q, hqq⟩ : ∃ q, (if cap = 1 then some (⟨bl, off, none⟩ : Addr) else some ⟨bl, off + 1, none⟩) = some ⟨bl, q, none⟩ := by
  by_cases h : cap = 1
  ·exact ⟨off, by rw [if_pos h]⟩
  ·exact ⟨off + 1, by rw [if_neg h]⟩
 have HBR : Hid (BytA w (some ⟨bl, q, none⟩) r) := hid (by
  rw [← hqq]
  by_cases h : cap = 1
  ·have hr : r = [] := List.eq_nil_of_length_eq_zero (by omega)
   rw [hr]
   exact BytA.nil _ _
  ·rw [if_neg h]
   exact HBY.out.drop 1)
 have HQP := hid hqq
 have HO := hid hO
 clear hm hl hcap hmax hs hcells hbl hb0 hb1 hO hq hqq
 go_enter Tryz.func19, Tryz.ntmps19
 go_upto_region 1 with fail
 rw [← hW0, ← hC]
 clear hW0 hC
 go_upto_region 7 with fail
 rw [← hW1, ← hJ]
 clear hW1 hJ hcell hbl0
 have hne : ¬ (m : Int) + 1 = 3 := by omega
 have hne2 : (((m : Int) + 1) == 3) = false := by simpa using hne
 have hne3 : (((m : Int) + 1) != 3) = true := by simpa using hne
 have HP : Hid (O = none) := hid (by rw [← HO.out]; unfold rd; simp only; rw [if_neg (by rw [HQ.out]; decide), if_neg (by rw [HQ.out]; decide), if_neg (by rw [HQ.out]; decide), if_neg (by rw [HQ.out]; decide), if_pos HQ.out]; exact if_neg (fun h => hm9 (HM.out.symm.trans h)))
 obtain ⟨j0, j1, j2, j3, j4, j5, j6, j7, j8, j9, j10, j11, j12, j13, j14⟩ := HBJ1.out.c15
 obtain ⟨jf0, jf1, jf2, jf3, jf4, jf5, jf6, jf7, jf8, jf9, jf10, jf11, jf12, jf13, jf14⟩ := HBJ1.out.f15
 have hjl := HBJ1.out.lt
 go_upto_region 27 with fail
 clear hjl j0 jf0 j1 jf1 j2 jf2 j3 jf3 j4 jf4 j5 jf5 j6 jf6 j7 jf7 j8 jf8 j9 jf9 j10 jf10 j11 jf11 j12 jf12 j13 jf13 j14 jf14
 go_upto_region 28 with fail
 have HKX := KR.of (P := Tryz.prog) (by assumption)
 go_light
 obtain ⟨r0, r1, r2, r3, r4, r5, r6, r7, r8, r9, r10, r11, r12, r13, r14⟩ := HBC1.out.c15
 obtain ⟨rf0, rf1, rf2, rf3, rf4, rf5, rf6, rf7, rf8, rf9, rf10, rf11, rf12, rf13, rf14⟩ := HBC1.out.f15
 have hcl := HBC1.out.lt
 go_wp2_with fail
 refine HKX.fin ?_
 refine bodyPost_ret (v := .tuple #[.agg #[.int .i64 0, .string ⟨#[]⟩, .int .i64 0, .int .i64 0, .int .i64 0, .int .i64 0, .int .i64 0, .string ⟨#[]⟩, .string ⟨#[]⟩, .int .i64 0, .slice none 0 0, .slice none 0 0, .int .i64 0, .int .i64 0, .bool false], .int .i64 3]) (by simp [results, Tryz.results19, go_sem, cell_set, r0, r1, r2, r3, r4, r5, r6, r7, r8, r9, r10, r11, r12, r13, r14, hcl]) rfl ?_
 show DecQ w O 3 _ (puts W1 C 0 [.int .i64 0, .string ⟨#[]⟩, .int .i64 0, .int .i64 0, .int .i64 0, .int .i64 0, .int .i64 0, .string ⟨#[]⟩, .string ⟨#[]⟩, .int .i64 0, .slice none 0 0, .slice none 0 0, .int .i64 0, .int .i64 0, .bool false])
 rw [HP.out]
 exact ⟨puts_below C (Nat.le_of_eq HC.out.symm) _ _ _ HB1.out, rfl⟩
theorem eventOf_4n (k : UInt8) (r : Bs) (a : Option Addr) (m cap : Nat) (w : World) (hm : r.length = m) (hl : m ≤ 2000) (hcap : m + 1 ≤ cap) (hmax : cap ≤ 9223372036854775807) (hs : BytA w a (k :: r)) (hq : k.toNat = 4) (hm9 : ¬ m = 3) : Calls Tryz.prog 19 #[.slice a (m + 1) cap] w (DecQ w (rd (k :: r)) 3) := by
 obtain ⟨C, hC⟩ : ∃ B, B = w.heap.size := ⟨_, rfl⟩
 obtain ⟨W0, hW0⟩ : ∃ W, W = w.alloc (.cells #[.int .i64 0, .string ⟨#[]⟩, .int .i64 0, .int .i64 0, .int .i64 0, .int .i64 0, .int .i64 0, .string ⟨#[]⟩, .string ⟨#[]⟩, .int .i64 0, .slice none 0 0, .slice none 0 0, .int .i64 0, .int .i64 0, .bool false] 40) := ⟨_, rfl⟩
 have HBC0 : Hid (BoxV C [.int .i64 0, .string ⟨#[]⟩, .int .i64 0, .int .i64 0, .int .i64 0, .int .i64 0, .int .i64 0, .string ⟨#[]⟩, .string ⟨#[]⟩, .int .i64 0, .slice none 0 0, .slice none 0 0, .int .i64 0, .int .i64 0, .bool false] W0) := hid (by rw [hW0]; exact BoxV.top _ hC)
 have hb0 : Below w.heap.size w W0 := be0 hW0
 have HB0 : Hid (Below w.heap.size w W0) := hid hb0
 have HC : Hid (C = w.heap.size) := hid hC
 obtain ⟨bl, off, rfl, hbl, hcells⟩ := hs.cell (i := 0) (c := k) rfl
 have hcell : W0.cell? ⟨bl, off, none⟩ = some (.int .u8 (k.toNat : Int)) := (hb0.cell (p := ⟨bl, off, none⟩) hbl).trans (hcells 0 k rfl)
 have HBY : Hid (BytA w (some ⟨bl, off, none⟩) (k :: r)) := hid hs
 obtain ⟨J, hJ⟩ : ∃ J, J = W0.heap.size := ⟨_, rfl⟩
 have hbl0 : bl < W0.heap.size := Nat.lt_of_lt_of_le hbl hb0.size
 have HBLJ : Hid (bl < J) := hid (by rw [hJ]; exact hbl0)
 obtain ⟨O, hO⟩ : ∃ O, rd (k :: r) = O := ⟨_, rfl⟩
 rw [hO]
 rw [show (k.toNat : Int) = 4 by omega] at hcell
 obtain ⟨W1, hW1⟩ : ∃ W, W = W0.alloc (.cells #[.int .i64 4, .string ⟨#[]⟩, .int .i64 0, .int .i64 0, .int .i64 0, .int .i64 0, .int .i64 0, .string ⟨#[]⟩, .string ⟨#[]⟩, .int .i64 0, .slice none 0 0, .slice none 0 0, .int .i64 0, .int .i64 0, .bool false] 40) := ⟨_, rfl⟩
 have hb1 : Below W0.heap.size W0 W1 := be0 hW1
 have HJW : Hid (w.heap.size ≤ J ∧ J ≠ C) := hid ⟨by rw [hJ]; exact HB0.out.size, by rw [hJ]; exact Nat.ne_of_gt HBC0.out.lt⟩
 have HB1 : Hid (Below w.heap.size w W1) := hid (HB0.out.trans (hb1.mono HB0.out.size))
 have HBC1 := hid (HBC0.out.step hb1)
 have HBJ1 : Hid (BoxV J [.int .i64 4, .string ⟨#[]⟩, .int .i64 0, .int .i64 0, .int .i64 0, .int .i64 0, .int .i64 0, .string ⟨#[]⟩, .string ⟨#[]⟩, .int .i64 0, .slice none 0 0, .slice none 0 0, .int .i64 0, .int .i64 0, .bool false] W1) := hid (by rw [hW1]; exact BoxV.top _ hJ)
 have hm0 : ¬ ((m : Int) + 1 = 0) := by omega
 have hm1 : (((m : Int) + 1) == 0) = false := by simpa using hm0
 have hm3 : ¬ (3001 : Int) < (m : Int) + 1 := by omega
 have hm4 : (0 : Int) < (m : Int) + 1 := by omega
 have hm5 : (1 : Int) ≤ (m : Int) + 1 := by omega
 have hm6 : (m : Int) + 1 ≤ (cap : Int) := by omega
 have HM := hid hm
 have HL := hid hl
 have HQ := hid hq
 have HCP := hid hcap
 have hcell1 : W1.cell? ⟨bl, off, none⟩ = some (.int .u8 4) := (hb1.cell (p := ⟨bl, off, none⟩) hbl0).trans hcell
 have HBY1 := hid (HBY.out.below HB1.out)
 have hbl1 : bl < W1.heap.size := Nat.lt_of_lt_of_le hbl0 hb1.size
 obtain ⟨q, hqq⟩ : ∃ q, (if cap = 1 then some (⟨bl, off, none⟩ : Addr) else some ⟨bl, off + 1, none⟩) = some ⟨bl, q, none⟩ := by
  by_cases h : cap = 1
  ·exact ⟨off, by rw [if_pos h]⟩
  ·exact ⟨off + 1, by rw [if_neg h]⟩
 have HBR : Hid (BytA w (some ⟨bl, q, none⟩) r) := hid (by
  rw [← hqq]
  by_cases h : cap = 1
  ·have hr : r = [] := List.eq_nil_of_length_eq_zero (by omega)
   rw [hr]
   exact BytA.nil _ _
  ·rw [if_neg h]
   exact HBY.out.drop 1)
 have HQP := hid hqq
 have HO := hid hO
 clear hm hl hcap hmax hs hcells hbl hb0 hb1 hO hq hqq
 go_enter Tryz.func19, Tryz.ntmps19
 go_upto_region 1 with fail
 rw [← hW0, ← hC]
 clear hW0 hC
 go_upto_region 7 with fail
 rw [← hW1, ← hJ]
 clear hW1 hJ hcell hbl0
 have hne : ¬ (m : Int) + 1 = 4 := by omega
 have hne2 : (((m : Int) + 1) == 4) = false := by simpa using hne
 have hne3 : (((m : Int) + 1) != 4) = true := by simpa using hne
 have HP : Hid (O = none) := hid (by rw [← HO.out]; unfold rd; simp only; rw [if_neg (by rw [HQ.out]; decide), if_neg (by rw [HQ.out]; decide), if_neg (by rw [HQ.out]; decide), if_pos HQ.out]; (split <;> first | rfl | exact absurd HM.out (fun h => hm9 h.symm)))
 obtain ⟨j0, j1, j2, j3, j4, j5, j6, j7, j8, j9, j10, j11, j12, j13, j14⟩ := HBJ1.out.c15
 obtain ⟨jf0, jf1, jf2, jf3, jf4, jf5, jf6, jf7, jf8, jf9, jf10, jf11, jf12, jf13, jf14⟩ := HBJ1.out.f15
 have hjl := HBJ1.out.lt
 go_upto_region 27 with fail
 clear hjl j0 jf0 j1 jf1 j2 jf2 j3 jf3 j4 jf4 j5 jf5 j6 jf6 j7 jf7 j8 jf8 j9 jf9 j10 jf10 j11 jf11 j12 jf12 j13 jf13 j14 jf14
 go_upto_region 28 with fail
 have HKX := KR.of (P := Tryz.prog) (by assumption)
 go_light
 obtain ⟨r0, r1, r2, r3, r4, r5, r6, r7, r8, r9, r10, r11, r12, r13, r14⟩ := HBC1.out.c15
 obtain ⟨rf0, rf1, rf2, rf3, rf4, rf5, rf6, rf7, rf8, rf9, rf10, rf11, rf12, rf13, rf14⟩ := HBC1.out.f15
 have hcl := HBC1.out.lt
 go_wp2_with fail
 refine HKX.fin ?_
 refine bodyPost_ret (v := .tuple #[.agg #[.int .i64 0, .string ⟨#[]⟩, .int .i64 0, .int .i64 0, .int .i64 0, .int .i64 0, .int .i64 0, .string ⟨#[]⟩, .string ⟨#[]⟩, .int .i64 0, .slice none 0 0, .slice none 0 0, .int .i64 0, .int .i64 0, .bool false], .int .i64 3]) (by simp [results, Tryz.results19, go_sem, cell_set, r0, r1, r2, r3, r4, r5, r6, r7, r8, r9, r10, r11, r12, r13, r14, hcl]) rfl ?_
 show DecQ w O 3 _ (puts W1 C 0 [.int .i64 0, .string ⟨#[]⟩, .int .i64 0, .int .i64 0, .int .i64 0, .int .i64 0, .int .i64 0, .string ⟨#[]⟩, .string ⟨#[]⟩, .int .i64 0, .slice none 0 0, .slice none 0 0, .int .i64 0, .int .i64 0, .bool false])
 rw [HP.out]
 exact ⟨puts_below C (Nat.le_of_eq HC.out.symm) _ _ _ HB1.out, rfl⟩
theorem eventOf_4b (k : UInt8) (r : Bs) (a : Option Addr) (m cap : Nat) (w : World) (hm : r.length = m) (hl : m ≤ 2000) (hcap : m + 1 ≤ cap) (hmax : cap ≤ 9223372036854775807) (hs : BytA w a (k :: r)) (hq : k.toNat = 4) (hmm : m = 3) (hz9 : ∀ x y z, r = [x, y, z] → 1 < z.toNat) : Calls Tryz.prog 19 #[.slice a (m + 1) cap] w (DecQ w (rd (k :: r)) 3) := by
 obtain ⟨C, hC⟩ : ∃ B, B = w.heap.size := ⟨_, rfl⟩
 obtain ⟨W0, hW0⟩ : ∃ W, W = w.alloc (.cells #[.int .i64 0, .string ⟨#[]⟩, .int .i64 0, .int .i64 0, .int .i64 0, .int .i64 0, .int .i64 0, .string ⟨#[]⟩, .string ⟨#[]⟩, .int .i64 0, .slice none 0 0, .slice none 0 0, .int .i64 0, .int .i64 0, .bool false] 40) := ⟨_, rfl⟩
 have HBC0 : Hid (BoxV C [.int .i64 0, .string ⟨#[]⟩, .int .i64 0, .int .i64 0, .int .i64 0, .int .i64 0, .int .i64 0, .string ⟨#[]⟩, .string ⟨#[]⟩, .int .i64 0, .slice none 0 0, .slice none 0 0, .int .i64 0, .int .i64 0, .bool false] W0) := hid (by rw [hW0]; exact BoxV.top _ hC)
 have hb0 : Below w.heap.size w W0 := be0 hW0
 have HB0 : Hid (Below w.heap.size w W0) := hid hb0
 have HC : Hid (C = w.heap.size) := hid hC
 obtain ⟨bl, off, rfl, hbl, hcells⟩ := hs.cell (i := 0) (c := k) rfl
 have hcell : W0.cell? ⟨bl, off, none⟩ = some (.int .u8 (k.toNat : Int)) := (hb0.cell (p := ⟨bl, off, none⟩) hbl).trans (hcells 0 k rfl)
 have HBY : Hid (BytA w (some ⟨bl, off, none⟩) (k :: r)) := hid hs
 obtain ⟨J, hJ⟩ : ∃ J, J = W0.heap.size := ⟨_, rfl⟩
 have hbl0 : bl < W0.heap.size := Nat.lt_of_lt_of_le hbl hb0.size
 have HBLJ : Hid (bl < J) := hid (by rw [hJ]; exact hbl0)
 obtain ⟨O, hO⟩ : ∃ O, rd (k :: r) = O := ⟨_, rfl⟩
 rw [hO]
 rw [show (k.toNat : Int) = 4 by omega] at hcell
 obtain ⟨W1, hW1⟩ : ∃ W, W = W0.alloc (.cells #[.int .i64 4, .string ⟨#[]⟩, .int .i64 0, .int .i64 0, .int .i64 0, .int .i64 0, .int .i64 0, .string ⟨#[]⟩, .string ⟨#[]⟩, .int .i64 0, .slice none 0 0, .slice none 0 0, .int .i64 0, .int .i64 0, .bool false] 40) := ⟨_, rfl⟩
 have hb1 : Below W0.heap.size W0 W1 := be0 hW1
 have HJW : Hid (w.heap.size ≤ J ∧ J ≠ C) := hid ⟨by rw [hJ]; exact HB0.out.size, by rw [hJ]; exact Nat.ne_of_gt HBC0.out.lt⟩
 have HB1 : Hid (Below w.heap.size w W1) := hid (HB0.out.trans (hb1.mono HB0.out.size))
 have HBC1 := hid (HBC0.out.step hb1)
 have HBJ1 : Hid (BoxV J [.int .i64 4, .string ⟨#[]⟩, .int .i64 0, .int .i64 0, .int .i64 0, .int .i64 0, .int .i64 0, .string ⟨#[]⟩, .string ⟨#[]⟩, .int .i64 0, .slice none 0 0, .slice none 0 0, .int .i64 0, .int .i64 0, .bool false] W1) := hid (by rw [hW1]; exact BoxV.top _ hJ)
 have hm0 : ¬ ((m : Int) + 1 = 0) := by omega
 have hm1 : (((m : Int) + 1) == 0) = false := by simpa using hm0
 have hm3 : ¬ (3001 : Int) < (m : Int) + 1 := by omega
 have hm4 : (0 : Int) < (m : Int) + 1 := by omega
 have hm5 : (1 : Int) ≤ (m : Int) + 1 := by omega
 have hm6 : (m : Int) + 1 ≤ (cap : Int) := by omega
 have HM := hid hm
 have HL := hid hl
 have HQ := hid hq
 have HCP := hid hcap
 have hcell1 : W1.cell? ⟨bl, off, none⟩ = some (.int .u8 4) := (hb1.cell (p := ⟨bl, off, none⟩) hbl0).trans hcell
 have HBY1 := hid (HBY.out.below HB1.out)
 have hbl1 : bl < W1.heap.size := Nat.lt_of_lt_of_le hbl0 hb1.size
 obtain ⟨q, hqq⟩ : ∃ q, (if cap = 1 then some (⟨bl, off, none⟩ : Addr) else some ⟨bl, off + 1, none⟩) = some ⟨bl, q, none⟩ := by
  by_cases h : cap = 1
  ·exact ⟨off, by rw [if_pos h]⟩
  ·exact ⟨off + 1, by rw [if_neg h]⟩
 have HBR : Hid (BytA w (some ⟨bl, q, none⟩) r) := hid (by
  rw [← hqq]
  by_cases h : cap = 1
  ·have hr : r = [] := List.eq_nil_of_length_eq_zero (by omega)
   rw [hr]
   exact BytA.nil _ _
  ·rw [if_neg h]
   exact HBY.out.drop 1)
 have HQP := hid hqq
 have HO := hid hO
 clear hm hl hcap hmax hs hcells hbl hb0 hb1 hO hq hqq
 go_enter Tryz.func19, Tryz.ntmps19
 go_upto_region 1 with fail
 rw [← hW0, ← hC]
 clear hW0 hC
 go_upto_region 7 with fail
 rw [← hW1, ← hJ]
 clear hW1 hJ hcell hbl0
 subst hmm
 obtain ⟨x, y, z, rfl⟩ := three HM.out
 have hcell3 := ((HBY.out.below HB1.out).cell (i := 3) (c := z) rfl)
 obtain ⟨b9, o9, he9, -, hc9⟩ := hcell3
 injection he9 with he9
 injection he9 with hx9 hy9
 subst hx9 hy9
 replace hc9 := hc9 3 z rfl
 obtain ⟨Z, hZ⟩ : ∃ Z : Int, (z.toNat : Int) = Z := ⟨_, rfl⟩
 rw [hZ] at hc9
 have hZ0 : 0 ≤ Z := by omega
 have hcap4 : (3 : Int) < (cap : Int) := by have := HCP.out; omega
 have hz9b := hz9 _ _ _ rfl
 have hz1 : 1 < Z := by omega
 have HP : Hid (O = none) := hid (by rw [← HO.out]; unfold rd; simp only; rw [if_neg (by rw [HQ.out]; decide), if_neg (by rw [HQ.out]; decide), if_neg (by rw [HQ.out]; decide), if_pos HQ.out]; exact if_neg (by omega))
 clear hZ
 obtain ⟨j0, j1, j2, j3, j4, j5, j6, j7, j8, j9, j10, j11, j12, j13, j14⟩ := HBJ1.out.c15
 obtain ⟨jf0, jf1, jf2, jf3, jf4, jf5, jf6, jf7, jf8, jf9, jf10, jf11, jf12, jf13, jf14⟩ := HBJ1.out.f15
 have hjl := HBJ1.out.lt
 go_upto_region 27 with fail
 clear hjl j0 jf0 j1 jf1 j2 jf2 j3 jf3 j4 jf4 j5 jf5 j6 jf6 j7 jf7 j8 jf8 j9 jf9 j10 jf10 j11 jf11 j12 jf12 j13 jf13 j14 jf14
 go_upto_region 28 with fail
 have HKX := KR.of (P := Tryz.prog) (by assumption)
 go_light
 obtain ⟨r0, r1, r2, r3, r4, r5, r6, r7, r8, r9, r10, r11, r12, r13, r14⟩ := HBC1.out.c15
 obtain ⟨rf0, rf1, rf2, rf3, rf4, rf5, rf6, rf7, rf8, rf9, rf10, rf11, rf12, rf13, rf14⟩ := HBC1.out.f15
 have hcl := HBC1.out.lt
 go_wp2_with fail
 refine HKX.fin ?_
 refine bodyPost_ret (v := .tuple #[.agg #[.int .i64 0, .string ⟨#[]⟩, .int .i64 0, .int .i64 0, .int .i64 0, .int .i64 0, .int .i64 0, .string ⟨#[]⟩, .string ⟨#[]⟩, .int .i64 0, .slice none 0 0, .slice none 0 0, .int .i64 0, .int .i64 0, .bool false], .int .i64 3]) (by simp [results, Tryz.results19, go_sem, cell_set, r0, r1, r2, r3, r4, r5, r6, r7, r8, r9, r10, r11, r12, r13, r14, hcl]) rfl ?_
 show DecQ w O 3 _ (puts W1 C 0 [.int .i64 0, .string ⟨#[]⟩, .int .i64 0, .int .i64 0, .int .i64 0, .int .i64 0, .int .i64 0, .string ⟨#[]⟩, .string ⟨#[]⟩, .int .i64 0, .slice none 0 0, .slice none 0 0, .int .i64 0, .int .i64 0, .bool false])
 rw [HP.out]
 exact ⟨puts_below C (Nat.le_of_eq HC.out.symm) _ _ _ HB1.out, rfl⟩
theorem eventOf_4y (k : UInt8) (r : Bs) (a : Option Addr) (m cap : Nat) (w : World) (hm : r.length = m) (hl : m ≤ 2000) (hcap : m + 1 ≤ cap) (hmax : cap ≤ 9223372036854775807) (hs : BytA w a (k :: r)) (hq : k.toNat = 4) (hmm : m = 3) (hz9 : ∀ x y z, r = [x, y, z] → z.toNat ≤ 1) : Calls Tryz.prog 19 #[.slice a (m + 1) cap] w (DecQ w (rd (k :: r)) 3) := by
 obtain ⟨C, hC⟩ : ∃ B, B = w.heap.size := ⟨_, rfl⟩
 obtain ⟨W0, hW0⟩ : ∃ W, W = w.alloc (.cells #[.int .i64 0, .string ⟨#[]⟩, .int .i64 0, .int .i64 0, .int .i64 0, .int .i64 0, .int .i64 0, .string ⟨#[]⟩, .string ⟨#[]⟩, .int .i64 0, .slice none 0 0, .slice none 0 0, .int .i64 0, .int .i64 0, .bool false] 40) := ⟨_, rfl⟩
 have HBC0 : Hid (BoxV C [.int .i64 0, .string ⟨#[]⟩, .int .i64 0, .int .i64 0, .int .i64 0, .int .i64 0, .int .i64 0, .string ⟨#[]⟩, .string ⟨#[]⟩, .int .i64 0, .slice none 0 0, .slice none 0 0, .int .i64 0, .int .i64 0, .bool false] W0) := hid (by rw [hW0]; exact BoxV.top _ hC)
 have hb0 : Below w.heap.size w W0 := be0 hW0
 have HB0 : Hid (Below w.heap.size w W0) := hid hb0
 have HC : Hid (C = w.heap.size) := hid hC
 obtain ⟨bl, off, rfl, hbl, hcells⟩ := hs.cell (i := 0) (c := k) rfl
 have hcell : W0.cell? ⟨bl, off, none⟩ = some (.int .u8 (k.toNat : Int)) := (hb0.cell (p := ⟨bl, off, none⟩) hbl).trans (hcells 0 k rfl)
 have HBY : Hid (BytA w (some ⟨bl, off, none⟩) (k :: r)) := hid hs
 obtain ⟨J, hJ⟩ : ∃ J, J = W0.heap.size := ⟨_, rfl⟩
 have hbl0 : bl < W0.heap.size := Nat.lt_of_lt_of_le hbl hb0.size
 have HBLJ : Hid (bl < J) := hid (by rw [hJ]; exact hbl0)
 obtain ⟨O, hO⟩ : ∃ O, rd (k :: r) = O := ⟨_, rfl⟩
 rw [hO]
 rw [show (k.toNat : Int) = 4 by omega] at hcell
 obtain ⟨W1, hW1⟩ : ∃ W, W = W0.alloc (.cells #[.int .i64 4, .string ⟨#[]⟩, .int .i64 0, .int .i64 0, .int .i64 0, .int .i64 0, .int .i64 0, .string ⟨#[]⟩, .string ⟨#[]⟩, .int .i64 0, .slice none 0 0, .slice none 0 0, .int .i64 0, .int .i64 0, .bool false] 40) := ⟨_, rfl⟩
 have hb1 : Below W0.heap.size W0 W1 := be0 hW1
 have HJW : Hid (w.heap.size ≤ J ∧ J ≠ C) := hid ⟨by rw [hJ]; exact HB0.out.size, by rw [hJ]; exact Nat.ne_of_gt HBC0.out.lt⟩
 have HB1 : Hid (Below w.heap.size w W1) := hid (HB0.out.trans (hb1.mono HB0.out.size))
 have HBC1 := hid (HBC0.out.step hb1)
 have HBJ1 : Hid (BoxV J [.int .i64 4, .string ⟨#[]⟩, .int .i64 0, .int .i64 0, .int .i64 0, .int .i64 0, .int .i64 0, .string ⟨#[]⟩, .string ⟨#[]⟩, .int .i64 0, .slice none 0 0, .slice none 0 0, .int .i64 0, .int .i64 0, .bool false] W1) := hid (by rw [hW1]; exact BoxV.top _ hJ)
 have hm0 : ¬ ((m : Int) + 1 = 0) := by omega
 have hm1 : (((m : Int) + 1) == 0) = false := by simpa using hm0
 have hm3 : ¬ (3001 : Int) < (m : Int) + 1 := by omega
 have hm4 : (0 : Int) < (m : Int) + 1 := by omega
 have hm5 : (1 : Int) ≤ (m : Int) + 1 := by omega
 have hm6 : (m : Int) + 1 ≤ (cap : Int) := by omega
 have HM := hid hm
 have HL := hid hl
 have HQ := hid hq
 have HCP := hid hcap
 have hcell1 : W1.cell? ⟨bl, off, none⟩ = some (.int .u8 4) := (hb1.cell (p := ⟨bl, off, none⟩) hbl0).trans hcell
 have HBY1 := hid (HBY.out.below HB1.out)
 have hbl1 : bl < W1.heap.size := Nat.lt_of_lt_of_le hbl0 hb1.size
 obtain ⟨q, hqq⟩ : ∃ q, (if cap = 1 then some (⟨bl, off, none⟩ : Addr) else some ⟨bl, off + 1, none⟩) = some ⟨bl, q, none⟩ := by
  by_cases h : cap = 1
  ·exact ⟨off, by rw [if_pos h]⟩
  ·exact ⟨off + 1, by rw [if_neg h]⟩
 have HBR : Hid (BytA w (some ⟨bl, q, none⟩) r) := hid (by
  rw [← hqq]
  by_cases h : cap = 1
  ·have hr : r = [] := List.eq_nil_of_length_eq_zero (by omega)
   rw [hr]
   exact BytA.nil _ _
  ·rw [if_neg h]
   exact HBY.out.drop 1)
 have HQP := hid hqq
 have HO := hid hO
 clear hm hl hcap hmax hs hcells hbl hb0 hb1 hO hq hqq
 go_enter Tryz.func19, Tryz.ntmps19
 go_upto_region 1 with fail
 rw [← hW0, ← hC]
 clear hW0 hC
 go_upto_region 7 with fail
 rw [← hW1, ← hJ]
 clear hW1 hJ hcell hbl0
 subst hmm
 obtain ⟨x, y, z, rfl⟩ := three HM.out
 have hcell3 := ((HBY.out.below HB1.out).cell (i := 3) (c := z) rfl)
 obtain ⟨b9, o9, he9, -, hc9⟩ := hcell3
 injection he9 with he9
 injection he9 with hx9 hy9
 subst hx9 hy9
 replace hc9 := hc9 3 z rfl
 obtain ⟨Z, hZ⟩ : ∃ Z : Int, (z.toNat : Int) = Z := ⟨_, rfl⟩
 rw [hZ] at hc9
 have hZ0 : 0 ≤ Z := by omega
 have hcap4 : (3 : Int) < (cap : Int) := by have := HCP.out; omega
 have hz9b := hz9 _ _ _ rfl
 have hz1 : ¬ 1 < Z := by omega
 obtain ⟨bo, hbo⟩ : ∃ b, (Z == 1) = b := ⟨_, rfl⟩
 have hcapn : ¬ cap = 1 := by have := HCP.out; omega
 have hcap3 : (3 : Int) ≤ (cap : Int) := by have := HCP.out; omega
 obtain ⟨N, hN⟩ : ∃ N, numI [x, y] = N := ⟨_, rfl⟩
 have HRDY : Hid (rd (k :: [x, y, z]) = some ⟨4, zJb, 0, N, bo⟩) := hid (by
  rw [← hN, ← hbo, ← hZ]; unfold rd; simp only
  rw [if_neg (by rw [HQ.out]; decide), if_neg (by rw [HQ.out]; decide), if_neg (by rw [HQ.out]; decide), if_pos HQ.out, if_pos (by omega)]
  have e : decide (z.toNat = 1) = ((z.toNat : Int) == 1) := by
   by_cases h : z.toNat = 1
   ·rw [h]; rfl
   ·have h2 : ¬ (z.toNat : Int) = 1 := by omega
    rw [decide_eq_false h]
    exact (by simpa using h2 : ((z.toNat : Int) == 1) = false).symm
  rw [e])
 have HB12 : Hid (∀ W, Below W1.heap.size W1 W → BytA W (some ⟨bl, off + 1, none⟩) [x, y]) := hid (fun W h => by
  have h2 := (((HBY.out.below HB1.out).below h).drop 1).take 2
  exact h2)
 have HVA : Hid (∀ W, Below W1.heap.size W1 W → Calls Tryz.prog 53 #[.slice (some ⟨bl, off + 1, none⟩) 2 (cap - 1)] W fun e w' => e = .returned (.int .i64 N) ∧ w' = W) := hid (fun W h => by rw [← hN]; exact value_any [x, y] (some ⟨bl, off + 1, none⟩) 2 (cap - 1) W rfl (by decide) (HB12.out W h))
 clear hZ hN
 obtain ⟨j0, j1, j2, j3, j4, j5, j6, j7, j8, j9, j10, j11, j12, j13, j14⟩ := HBJ1.out.c15
 obtain ⟨jf0, jf1, jf2, jf3, jf4, jf5, jf6, jf7, jf8, jf9, jf10, jf11, jf12, jf13, jf14⟩ := HBJ1.out.f15
 have hjl := HBJ1.out.lt
 go_upto_region 22 with fail
 obtain ⟨Wd, hWd⟩ : ∃ W, W1.drew = W := ⟨_, rfl⟩
 have hbn : Below W1.heap.size W1 Wd := by rw [← hWd]; exact (Below.refl _ _).drew
 have hc99 : Wd.cell? ⟨bl, off + 3, none⟩ = some (.int .u8 Z) := (hbn.cell (p := ⟨bl, off + 3, none⟩) hbl1).trans hc9
 have HB9 : Hid (Below w.heap.size w Wd) := hid (HB1.out.trans (hbn.mono HB1.out.size))
 have HBC9 := hid (HBC1.out.step hbn)
 have HBJ9 : Hid (BoxV J [.int .i64 4, .string ⟨#[]⟩, .int .i64 0, .int .i64 0, .int .i64 0, .int .i64 0, .int .i64 0, .string ⟨#[]⟩, .string ⟨#[]⟩, .int .i64 0, .slice none 0 0, .slice none 0 0, .int .i64 0, .int .i64 0, .bool false] Wd) := hid (HBJ1.out.step hbn)
 have HVD := hid (HVA.out Wd hbn)
 clear hbn hc9 hcell1
 clear hjl j0 jf0 j1 jf1 j2 jf2 j3 jf3 j4 jf4 j5 jf5 j6 jf6 j7 jf7 j8 jf8 j9 jf9 j10 jf10 j11 jf11 j12 jf12 j13 jf13 j14 jf14
 obtain ⟨j0, j1, j2, j3, j4, j5, j6, j7, j8, j9, j10, j11, j12, j13, j14⟩ := HBJ9.out.c15
 obtain ⟨jf0, jf1, jf2, jf3, jf4, jf5, jf6, jf7, jf8, jf9, jf10, jf11, jf12, jf13, jf14⟩ := HBJ9.out.f15
 have hjl := HBJ9.out.lt
 have hJbl : bl ≠ J := by have := HBLJ.out; omega
 go_region_held3 (fun W => W.cell? ⟨bl, off + 3, none⟩ = some (.int .u8 Z)) (first | with_reducible exact hc99 | (rw [World.cell?_setCell_other _ _ _ _ (fun e => hJbl (congrArg Addr.block e).symm)]; exact hc99) | (rw [World.cell?_setCell_other _ _ _ _ (fun e => hJbl (congrArg Addr.block e).symm), World.cell?_setCell_other _ _ _ _ (fun e => hJbl (congrArg Addr.block e).symm)]; exact hc99) | go_keep) ((go_at_call 53; refine Calls.mono HVD.out ?_; rintro e w1 ⟨rfl, hw1⟩; subst hw1))
 obtain ⟨W2, hW2⟩ : ∃ W, ((w1.setCell ⟨J, 13, none⟩ (.int .i64 N)).setCell ⟨J, 14, none⟩ (.bool bo)) = W := ⟨_, rfl⟩
 have HB2 : Hid (Below w.heap.size w W2) := hid (by rw [← hW2]; exact ((HB9.out).setCell (p := ⟨J, 13, none⟩) HJW.out.1 _).setCell (p := ⟨J, 14, none⟩) HJW.out.1 _)
 have HBC2 : Hid (BoxV C [.int .i64 0, .string ⟨#[]⟩, .int .i64 0, .int .i64 0, .int .i64 0, .int .i64 0, .int .i64 0, .string ⟨#[]⟩, .string ⟨#[]⟩, .int .i64 0, .slice none 0 0, .slice none 0 0, .int .i64 0, .int .i64 0, .bool false] W2) := hid (by rw [← hW2]; exact ((HBC9.out).other (a := ⟨J, 13, none⟩) HJW.out.2 _).other (a := ⟨J, 14, none⟩) HJW.out.2 _)
 have HBJ2 : Hid (BoxV J [.int .i64 4, .string ⟨#[]⟩, .int .i64 0, .int .i64 0, .int .i64 0, .int .i64 0, .int .i64 0, .string ⟨#[]⟩, .string ⟨#[]⟩, .int .i64 0, .slice none 0 0, .slice none 0 0, .int .i64 0, .int .i64 N, .bool bo] W2) := hid (by rw [← hW2]; exact ((HBJ9.out).set 13 _).set 14 _)
 go_upto_region 27 with fail
 rw [hW2]
 clear hW2 hWd hc99
 clear hjl j0 jf0 j1 jf1 j2 jf2 j3 jf3 j4 jf4 j5 jf5 j6 jf6 j7 jf7 j8 jf8 j9 jf9 j10 jf10 j11 jf11 j12 jf12 j13 jf13 j14 jf14
 have HJN : Hid (JobN (C + 1) W2 zJb (jobVal ⟨#[]⟩ 0 0 0 0 0 ⟨#[]⟩ ⟨#[]⟩ 0 none 0 0 none 0 0)) := hid (JobN.zero _ _)
 have HCQ : Hid (C < C + 1) := hid (Nat.lt_succ_self _)
 obtain ⟨f, hf⟩ : ∃ f, (⟨4, zJb, 0, N, bo⟩ : Evt).fault = f := ⟨_, rfl⟩
 have HOO : Hid (O = if f = 0 then some (⟨4, zJb, 0, N, bo⟩) else none) := hid (rd_fault HO.out HRDY.out hf)
 have HYS : Hid ((⟨4, zJb, 0, N, bo⟩ : Evt).job.ask.size ≤ 1000000000) := hid (zsize)
 have HEN0 := evFault_any (⟨4, zJb, 0, N, bo⟩) _ W2 HYS.out (EvV.ofJob (y := ⟨4, zJb, 0, N, bo⟩) HJN.out)
 rw [hf] at HEN0
 have HEN : Hid (Calls Tryz.prog 15 #[.agg #[.int .i64 4, .string ⟨#[]⟩, .int .i64 0, .int .i64 0, .int .i64 0, .int .i64 0, .int .i64 0, .string ⟨#[]⟩, .string ⟨#[]⟩, .int .i64 0, .slice none 0 0, .slice none 0 0, .int .i64 0, .int .i64 N, .bool bo]] W2 fun e w' => e = .returned (.int .i64 f) ∧ Below W2.heap.size W2 w') := hid HEN0
 clear HEN0 hf
 obtain ⟨j0, j1, j2, j3, j4, j5, j6, j7, j8, j9, j10, j11, j12, j13, j14⟩ := HBJ2.out.c15
 obtain ⟨jf0, jf1, jf2, jf3, jf4, jf5, jf6, jf7, jf8, jf9, jf10, jf11, jf12, jf13, jf14⟩ := HBJ2.out.f15
 have hjl := HBJ2.out.lt
 go_wp2_with fail
 refine Calls.mono HEN.out ?_
 rintro e W5 ⟨rfl, hbn⟩
 have HB5 : Hid (Below w.heap.size w W5) := hid (HB2.out.trans (hbn.mono HB2.out.size))
 have HBC5 := hid (HBC2.out.step hbn)
 have HBJ5 : Hid (BoxV J [.int .i64 4, .string ⟨#[]⟩, .int .i64 0, .int .i64 0, .int .i64 0, .int .i64 0, .int .i64 0, .string ⟨#[]⟩, .string ⟨#[]⟩, .int .i64 0, .slice none 0 0, .slice none 0 0, .int .i64 0, .int .i64 N, .bool bo] W5) := hid (HBJ2.out.step hbn)
 have HJN5 := hid (HJN.out.keep hbn.size (fun b _ hb => hbn.block b hb))
 clear hbn
 clear hjl j0 jf0 j1 jf1 j2 jf2 j3 jf3 j4 jf4 j5 jf5 j6 jf6 j7 jf7 j8 jf8 j9 jf9 j10 jf10 j11 jf11 j12 jf12 j13 jf13 j14 jf14
 by_cases h0 : f = 0
 ·subst h0
  have HP : Hid (O = some (⟨4, zJb, 0, N, bo⟩)) := hid (by rw [HOO.out]; rfl)
  go_upto_region 29 with fail
  have HKX := KR.of (P := Tryz.prog) (by assumption)
  go_light
  obtain ⟨r0, r1, r2, r3, r4, r5, r6, r7, r8, r9, r10, r11, r12, r13, r14⟩ := HBC5.out.c15
  obtain ⟨rf0, rf1, rf2, rf3, rf4, rf5, rf6, rf7, rf8, rf9, rf10, rf11, rf12, rf13, rf14⟩ := HBC5.out.f15
  have hcl := HBC5.out.lt
  obtain ⟨e0, e1, e2, e3, e4, e5, e6, e7, e8, e9, e10, e11, e12, e13, e14⟩ := HBJ5.out.c15
  have hjl := HBJ5.out.lt
  go_wp2_with fail
  refine HKX.fin ?_
  refine bodyPost_ret (v := .tuple #[.agg #[.int .i64 4, .string ⟨#[]⟩, .int .i64 0, .int .i64 0, .int .i64 0, .int .i64 0, .int .i64 0, .string ⟨#[]⟩, .string ⟨#[]⟩, .int .i64 0, .slice none 0 0, .slice none 0 0, .int .i64 0, .int .i64 N, .bool bo], .int .i64 0]) (by simp [results, Tryz.results19, go_sem, cell_set, r0, r1, r2, r3, r4, r5, r6, r7, r8, r9, r10, r11, r12, r13, r14, hcl]) rfl ?_
  show DecQ w O 3 _ (puts W5 C 0 [.int .i64 4, .string ⟨#[]⟩, .int .i64 0, .int .i64 0, .int .i64 0, .int .i64 0, .int .i64 0, .string ⟨#[]⟩, .string ⟨#[]⟩, .int .i64 0, .slice none 0 0, .slice none 0 0, .int .i64 0, .int .i64 N, .bool bo])
  rw [HP.out]
  exact ⟨puts_below C (Nat.le_of_eq HC.out.symm) _ _ _ HB5.out, _, rfl, EvN.ofJob (JobN.low (JobN.keep HJN5.out (Nat.le_of_eq (puts_size _ _ _ _).symm) (fun b hb _ => puts_heap C (Nat.ne_of_gt (Nat.lt_of_lt_of_le HCQ.out hb)) _ _ _)) (by rw [← HC.out]; exact Nat.le_of_lt HCQ.out))⟩
 ·have hz : (f == 0) = false := by simpa using h0
  have hz2 : (f != 0) = true := by simpa using h0
  have HP : Hid (O = none) := hid (by rw [HOO.out]; exact if_neg h0)
  clear h0
  go_upto_region 28 with fail
  have HKX := KR.of (P := Tryz.prog) (by assumption)
  go_light
  obtain ⟨r0, r1, r2, r3, r4, r5, r6, r7, r8, r9, r10, r11, r12, r13, r14⟩ := HBC5.out.c15
  obtain ⟨rf0, rf1, rf2, rf3, rf4, rf5, rf6, rf7, rf8, rf9, rf10, rf11, rf12, rf13, rf14⟩ := HBC5.out.f15
  have hcl := HBC5.out.lt
  go_wp2_with fail
  refine HKX.fin ?_
  refine bodyPost_ret (v := .tuple #[.agg #[.int .i64 0, .string ⟨#[]⟩, .int .i64 0, .int .i64 0, .int .i64 0, .int .i64 0, .int .i64 0, .string ⟨#[]⟩, .string ⟨#[]⟩, .int .i64 0, .slice none 0 0, .slice none 0 0, .int .i64 0, .int .i64 0, .bool false], .int .i64 3]) (by simp [results, Tryz.results19, go_sem, cell_set, r0, r1, r2, r3, r4, r5, r6, r7, r8, r9, r10, r11, r12, r13, r14, hcl]) rfl ?_
  show DecQ w O 3 _ (puts W5 C 0 [.int .i64 0, .string ⟨#[]⟩, .int .i64 0, .int .i64 0, .int .i64 0, .int .i64 0, .int .i64 0, .string ⟨#[]⟩, .string ⟨#[]⟩, .int .i64 0, .slice none 0 0, .slice none 0 0, .int .i64 0, .int .i64 0, .bool false])
  rw [HP.out]
  exact ⟨puts_below C (Nat.le_of_eq HC.out.symm) _ _ _ HB5.out, rfl⟩
theorem eventOf_0 (k : UInt8) (r : Bs) (a : Option Addr) (m cap : Nat) (w : World) (hm : r.length = m) (hl : m ≤ 2000) (hcap : m + 1 ≤ cap) (hmax : cap ≤ 9223372036854775807) (hs : BytA w a (k :: r)) (hq : ¬ k.toNat = 1 ∧ ¬ k.toNat = 2 ∧ ¬ k.toNat = 3 ∧ ¬ k.toNat = 4 ∧ ¬ k.toNat = 5)  : Calls Tryz.prog 19 #[.slice a (m + 1) cap] w (DecQ w (rd (k :: r)) 3) := by
 obtain ⟨C, hC⟩ : ∃ B, B = w.heap.size := ⟨_, rfl⟩
 obtain ⟨W0, hW0⟩ : ∃ W, W = w.alloc (.cells #[.int .i64 0, .string ⟨#[]⟩, .int .i64 0, .int .i64 0, .int .i64 0, .int .i64 0, .int .i64 0, .string ⟨#[]⟩, .string ⟨#[]⟩, .int .i64 0, .slice none 0 0, .slice none 0 0, .int .i64 0, .int .i64 0, .bool false] 40) := ⟨_, rfl⟩
 have HBC0 : Hid (BoxV C [.int .i64 0, .string ⟨#[]⟩, .int .i64 0, .int .i64 0, .int .i64 0, .int .i64 0, .int .i64 0, .string ⟨#[]⟩, .string ⟨#[]⟩, .int .i64 0, .slice none 0 0, .slice none 0 0, .int .i64 0, .int .i64 0, .bool false] W0) := hid (by rw [hW0]; exact BoxV.top _ hC)
 have hb0 : Below w.heap.size w W0 := be0 hW0
 have HB0 : Hid (Below w.heap.size w W0) := hid hb0
 have HC : Hid (C = w.heap.size) := hid hC
 obtain ⟨bl, off, rfl, hbl, hcells⟩ := hs.cell (i := 0) (c := k) rfl
 have hcell : W0.cell? ⟨bl, off, none⟩ = some (.int .u8 (k.toNat : Int)) := (hb0.cell (p := ⟨bl, off, none⟩) hbl).trans (hcells 0 k rfl)
 have HBY : Hid (BytA w (some ⟨bl, off, none⟩) (k :: r)) := hid hs
 obtain ⟨J, hJ⟩ : ∃ J, J = W0.heap.size := ⟨_, rfl⟩
 have hbl0 : bl < W0.heap.size := Nat.lt_of_lt_of_le hbl hb0.size
 have HBLJ : Hid (bl < J) := hid (by rw [hJ]; exact hbl0)
 obtain ⟨O, hO⟩ : ∃ O, rd (k :: r) = O := ⟨_, rfl⟩
 rw [hO]
 obtain ⟨KI, hKI⟩ : ∃ KI : Int, (k.toNat : Int) = KI := ⟨_, rfl⟩
 have hK0 : 0 ≤ KI := by omega
 have hK3 : KI < 256 := by have := k.toNat_lt; omega
 rw [hKI] at hcell
 obtain ⟨hq1, hq2, hq3, hq4, hq5⟩ : ¬ KI = 1 ∧ ¬ KI = 2 ∧ ¬ KI = 3 ∧ ¬ KI = 4 ∧ ¬ KI = 5 := by omega
 have hk1 : (KI == 1) = false := by simpa using hq1
 have hk2 : (KI == 2) = false := by simpa using hq2
 have hk3 : (KI == 3) = false := by simpa using hq3
 have hk4 : (KI == 4) = false := by simpa using hq4
 have hk5 : (KI == 5) = false := by simpa using hq5
 have HP : Hid (O = none) := hid (by
  rw [← hO]; unfold rd
  simp only [hq.1, hq.2.1, hq.2.2.1, hq.2.2.2.1, hq.2.2.2.2, if_false])
 clear hq1 hq2 hq3 hq4 hq5 hKI
 obtain ⟨W1, hW1⟩ : ∃ W, W = W0.alloc (.cells #[.int .i64 KI, .string ⟨#[]⟩, .int .i64 0, .int .i64 0, .int .i64 0, .int .i64 0, .int .i64 0, .string ⟨#[]⟩, .string ⟨#[]⟩, .int .i64 0, .slice none 0 0, .slice none 0 0, .int .i64 0, .int .i64 0, .bool false] 40) := ⟨_, rfl⟩
 have hb1 : Below W0.heap.size W0 W1 := be0 hW1
 have HJW : Hid (w.heap.size ≤ J ∧ J ≠ C) := hid ⟨by rw [hJ]; exact HB0.out.size, by rw [hJ]; exact Nat.ne_of_gt HBC0.out.lt⟩
 have HB1 : Hid (Below w.heap.size w W1) := hid (HB0.out.trans (hb1.mono HB0.out.size))
 have HBC1 := hid (HBC0.out.step hb1)
 have HBJ1 : Hid (BoxV J [.int .i64 KI, .string ⟨#[]⟩, .int .i64 0, .int .i64 0, .int .i64 0, .int .i64 0, .int .i64 0, .string ⟨#[]⟩, .string ⟨#[]⟩, .int .i64 0, .slice none 0 0, .slice none 0 0, .int .i64 0, .int .i64 0, .bool false] W1) := hid (by rw [hW1]; exact BoxV.top _ hJ)
 have hm0 : ¬ ((m : Int) + 1 = 0) := by omega
 have hm1 : (((m : Int) + 1) == 0) = false := by simpa using hm0
 have hm3 : ¬ (3001 : Int) < (m : Int) + 1 := by omega
 have hm4 : (0 : Int) < (m : Int) + 1 := by omega
 have hm5 : (1 : Int) ≤ (m : Int) + 1 := by omega
 have hm6 : (m : Int) + 1 ≤ (cap : Int) := by omega
 have HM := hid hm
 have HL := hid hl
 have HQ := hid hq
 have HCP := hid hcap
 have hcell1 : W1.cell? ⟨bl, off, none⟩ = some (.int .u8 KI) := (hb1.cell (p := ⟨bl, off, none⟩) hbl0).trans hcell
 have HBY1 := hid (HBY.out.below HB1.out)
 have hbl1 : bl < W1.heap.size := Nat.lt_of_lt_of_le hbl0 hb1.size
 obtain ⟨q, hqq⟩ : ∃ q, (if cap = 1 then some (⟨bl, off, none⟩ : Addr) else some ⟨bl, off + 1, none⟩) = some ⟨bl, q, none⟩ := by
  by_cases h : cap = 1
  ·exact ⟨off, by rw [if_pos h]⟩
  ·exact ⟨off + 1, by rw [if_neg h]⟩
 have HBR : Hid (BytA w (some ⟨bl, q, none⟩) r) := hid (by
  rw [← hqq]
  by_cases h : cap = 1
  ·have hr : r = [] := List.eq_nil_of_length_eq_zero (by omega)
   rw [hr]
   exact BytA.nil _ _
  ·rw [if_neg h]
   exact HBY.out.drop 1)
 have HQP := hid hqq
 have HO := hid hO
 clear hm hl hcap hmax hs hcells hbl hb0 hb1 hO hq hqq
 go_enter Tryz.func19, Tryz.ntmps19
 go_upto_region 1 with fail
 rw [← hW0, ← hC]
 clear hW0 hC
 go_upto_region 7 with fail
 rw [← hW1, ← hJ]
 clear hW1 hJ hcell hbl0
 obtain ⟨j0, j1, j2, j3, j4, j5, j6, j7, j8, j9, j10, j11, j12, j13, j14⟩ := HBJ1.out.c15
 obtain ⟨jf0, jf1, jf2, jf3, jf4, jf5, jf6, jf7, jf8, jf9, jf10, jf11, jf12, jf13, jf14⟩ := HBJ1.out.f15
 have hjl := HBJ1.out.lt
 go_upto_region 27 with fail
 clear hjl j0 jf0 j1 jf1 j2 jf2 j3 jf3 j4 jf4 j5 jf5 j6 jf6 j7 jf7 j8 jf8 j9 jf9 j10 jf10 j11 jf11 j12 jf12 j13 jf13 j14 jf14
 go_upto_region 28 with fail
 have HKX := KR.of (P := Tryz.prog) (by assumption)
 go_light
 obtain ⟨r0, r1, r2, r3, r4, r5, r6, r7, r8, r9, r10, r11, r12, r13, r14⟩ := HBC1.out.c15
 obtain ⟨rf0, rf1, rf2, rf3, rf4, rf5, rf6, rf7, rf8, rf9, rf10, rf11, rf12, rf13, rf14⟩ := HBC1.out.f15
 have hcl := HBC1.out.lt
 go_wp2_with fail
 refine HKX.fin ?_
 refine bodyPost_ret (v := .tuple #[.agg #[.int .i64 0, .string ⟨#[]⟩, .int .i64 0, .int .i64 0, .int .i64 0, .int .i64 0, .int .i64 0, .string ⟨#[]⟩, .string ⟨#[]⟩, .int .i64 0, .slice none 0 0, .slice none 0 0, .int .i64 0, .int .i64 0, .bool false], .int .i64 3]) (by simp [results, Tryz.results19, go_sem, cell_set, r0, r1, r2, r3, r4, r5, r6, r7, r8, r9, r10, r11, r12, r13, r14, hcl]) rfl ?_
 show DecQ w O 3 _ (puts W1 C 0 [.int .i64 0, .string ⟨#[]⟩, .int .i64 0, .int .i64 0, .int .i64 0, .int .i64 0, .int .i64 0, .string ⟨#[]⟩, .string ⟨#[]⟩, .int .i64 0, .slice none 0 0, .slice none 0 0, .int .i64 0, .int .i64 0, .bool false])
 rw [HP.out]
 exact ⟨puts_below C (Nat.le_of_eq HC.out.symm) _ _ _ HB1.out, rfl⟩
end Go.Proofs.YtkemlckmfgacdaaGreatDoor
