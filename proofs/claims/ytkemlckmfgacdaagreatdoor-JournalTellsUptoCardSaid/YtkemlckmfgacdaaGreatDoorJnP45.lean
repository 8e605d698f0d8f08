/- Contract: the document's EventOf. -/
import Derived.Test.YtkemlckmfgacdaaGreatDoorJnP44
import Derived.Deep.Light
import Derived.Deep.RegionWith
import Derived.Deep.RegionHeld3
namespace Go.Proofs.YtkemlckmfgacdaaGreatDoor
set_option maxRecDepth 20000
set_option maxHeartbeats 64000000
open Go.ChangeShapes Go.WideShapes Go.ChangeAt Go.RowKit
set_option linter.unusedVariables false
set_option linter.unusedSimpArgs false
open Tp Jm Ev
theorem eventOf_long (s : Bs) (a : Option Addr) (n cap : Nat) (w : World) (hn : s.length = n) (hl : 3001 < n) : Calls Tryz.prog 19 #[.slice a n cap] w (DecQ w none 2) := by
 obtain ⟨C, hC⟩ : ∃ B, B = w.heap.size := ⟨_, rfl⟩
 obtain ⟨W0, hW0⟩ : ∃ W, W = w.alloc (.cells #[.int .i64 0, .string ⟨#[]⟩, .int .i64 0, .int .i64 0, .int .i64 0, .int .i64 0, .int .i64 0, .string ⟨#[]⟩, .string ⟨#[]⟩, .int .i64 0, .slice none 0 0, .slice none 0 0, .int .i64 0, .int .i64 0, .bool false] 40) := ⟨_, rfl⟩
 have HBC0 : Hid (BoxV C [.int .i64 0, .string ⟨#[]⟩, .int .i64 0, .int .i64 0, .int .i64 0, .int .i64 0, .int .i64 0, .string ⟨#[]⟩, .string ⟨#[]⟩, .int .i64 0, .slice none 0 0, .slice none 0 0, .int .i64 0, .int .i64 0, .bool false] W0) := hid (by rw [hW0]; exact BoxV.top _ hC)
 have hb0 : Below w.heap.size w W0 := be0 hW0
 have HB0 : Hid (Below w.heap.size w W0) := hid hb0
 have HC : Hid (C = w.heap.size) := hid hC
 have hn3 : (3001 : Int) < (n : Int) := by omega
 obtain ⟨O, hO⟩ : ∃ O : Option Evt, O = none := ⟨_, rfl⟩
 have HP := hid hO
 rw [← hO]
 clear hO hn hl hb0
 go_enter Tryz.func19, Tryz.ntmps19
 go_upto_region 1 with fail
 rw [← hW0, ← hC]
 clear hW0 hC
 obtain ⟨r0, r1, r2, r3, r4, r5, r6, r7, r8, r9, r10, r11, r12, r13, r14⟩ := HBC0.out.c15
 obtain ⟨rf0, rf1, rf2, rf3, rf4, rf5, rf6, rf7, rf8, rf9, rf10, rf11, rf12, rf13, rf14⟩ := HBC0.out.f15
 have hcl := HBC0.out.lt
 go_wp2_with fail
 refine bodyPost_ret (v := .tuple #[.agg #[.int .i64 0, .string ⟨#[]⟩, .int .i64 0, .int .i64 0, .int .i64 0, .int .i64 0, .int .i64 0, .string ⟨#[]⟩, .string ⟨#[]⟩, .int .i64 0, .slice none 0 0, .slice none 0 0, .int .i64 0, .int .i64 0, .bool false], .int .i64 2]) (by simp [results, Tryz.results19, go_sem, cell_set, r0, r1, r2, r3, r4, r5, r6, r7, r8, r9, r10, r11, r12, r13, r14, hcl]) rfl ?_
 show DecQ w O 2 _ (puts W0 C 0 [.int .i64 0, .string ⟨#[]⟩, .int .i64 0, .int .i64 0, .int .i64 0, .int .i64 0, .int .i64 0, .string ⟨#[]⟩, .string ⟨#[]⟩, .int .i64 0, .slice none 0 0, .slice none 0 0, .int .i64 0, .int .i64 0, .bool false])
 rw [HP.out]
 exact ⟨puts_below C (Nat.le_of_eq HC.out.symm) _ _ _ HB0.out, rfl⟩
theorem eventOf_none (a : Option Addr) (cap : Nat) (w : World) : Calls Tryz.prog 19 #[.slice a 0 cap] w (DecQ w none 3) := by
 obtain ⟨C, hC⟩ : ∃ B, B = w.heap.size := ⟨_, rfl⟩
 obtain ⟨W0, hW0⟩ : ∃ W, W = w.alloc (.cells #[.int .i64 0, .string ⟨#[]⟩, .int .i64 0, .int .i64 0, .int .i64 0, .int .i64 0, .int .i64 0, .string ⟨#[]⟩, .string ⟨#[]⟩, .int .i64 0, .slice none 0 0, .slice none 0 0, .int .i64 0, .int .i64 0, .bool false] 40) := ⟨_, rfl⟩
 have HBC0 : Hid (BoxV C [.int .i64 0, .string ⟨#[]⟩, .int .i64 0, .int .i64 0, .int .i64 0, .int .i64 0, .int .i64 0, .string ⟨#[]⟩, .string ⟨#[]⟩, .int .i64 0, .slice none 0 0, .slice none 0 0, .int .i64 0, .int .i64 0, .bool false] W0) := hid (by rw [hW0]; exact BoxV.top _ hC)
 have hb0 : Below w.heap.size w W0 := be0 hW0
 have HB0 : Hid (Below w.heap.size w W0) := hid hb0
 have HC : Hid (C = w.heap.size) := hid hC
 obtain ⟨O, hO⟩ : ∃ O : Option Evt, O = none := ⟨_, rfl⟩
 have HP := hid hO
 rw [← hO]
 clear hO hb0
 go_enter Tryz.func19, Tryz.ntmps19
 go_upto_region 1 with fail
 rw [← hW0, ← hC]
 clear hW0 hC
 obtain ⟨r0, r1, r2, r3, r4, r5, r6, r7, r8, r9, r10, r11, r12, r13, r14⟩ := HBC0.out.c15
 obtain ⟨rf0, rf1, rf2, rf3, rf4, rf5, rf6, rf7, rf8, rf9, rf10, rf11, rf12, rf13, rf14⟩ := HBC0.out.f15
 have hcl := HBC0.out.lt
 go_wp2_with fail
 refine bodyPost_ret (v := .tuple #[.agg #[.int .i64 0, .string ⟨#[]⟩, .int .i64 0, .int .i64 0, .int .i64 0, .int .i64 0, .int .i64 0, .string ⟨#[]⟩, .string ⟨#[]⟩, .int .i64 0, .slice none 0 0, .slice none 0 0, .int .i64 0, .int .i64 0, .bool false], .int .i64 3]) (by simp [results, Tryz.results19, go_sem, cell_set, r0, r1, r2, r3, r4, r5, r6, r7, r8, r9, r10, r11, r12, r13, r14, hcl]) rfl ?_
 show DecQ w O 3 _ (puts W0 C 0 [.int .i64 0, .string ⟨#[]⟩, .int .i64 0, .int .i64 0, .int .i64 0, .int .i64 0, .int .i64 0, .string ⟨#[]⟩, .string ⟨#[]⟩, .int .i64 0, .slice none 0 0, .slice none 0 0, .int .i64 0, .int .i64 0, .bool false])
 rw [HP.out]
 exact ⟨puts_below C (Nat.le_of_eq HC.out.symm) _ _ _ HB0.out, rfl⟩
theorem eventOf_1n (k : UInt8) (r : Bs) (a : Option Addr) (m cap : Nat) (w : World) (hm : r.length = m) (hl : m ≤ 2000) (hcap : m + 1 ≤ cap) (hmax : cap ≤ 9223372036854775807) (hs : BytA w a (k :: r)) (hq : k.toNat = 1) (hO1 : rdA r = none) : Calls Tryz.prog 19 #[.slice a (m + 1) cap] w (DecQ w (rd (k :: r)) 3) := by
 obtain ⟨C, hC⟩ : ∃ B, B = w.heap.size := ⟨_, rfl⟩
 obtain ⟨W0, hW0⟩ : ∃ W, W = w.alloc (.cells #[.int .i64 0, .string ⟨#[]⟩, .int .i64 0, .int .i64 0, .int .i64 0, .int .i64 0, .int .i64 0, .string ⟨#[]⟩, .string ⟨#[]⟩, .int .i64 0, .slice none 0 0, .slice none 0 0, .int .i64 0, .int .i64 0, .bool false] 40) := ⟨_, rfl⟩
 have HBC0 : Hid (BoxV C [.int .i64 0, .string ⟨#[]⟩, .int .i64 0, .int .i64 0, .int .i64 0, .int .i64 0, .int .i64 0, .string ⟨#[]⟩, .string ⟨#[]⟩, .int .i64 0, .slice none 0 0, .slice none 0 0, .int .i64 0, .int .i64 0, .bool false] W0) := hid (by rw [hW0]; exact BoxV.top _ hC)
 have hb0 : Below w.heap.size w W0 := be0 hW0
 have HB0 : Hid (Below w.heap.size w W0) := hid hb0
 have HC : Hid (C = w.heap.size) := hid hC
 obtain ⟨bl, off, rfl, hbl, hcells⟩ := hs.cell (i := 0) (c := k) rfl
 have hcell : W0.cell? ⟨bl, off, none⟩ = some (.int .u8 (k.toNat : Int)) := (hb0.cell (p := ⟨bl, off, none⟩) hbl).trans (hcells 0 k rfl)
 have HBY : Hid (BytA w (some ⟨bl, off, none⟩) (k :: r)) := hid hs
 obtain ⟨J, hJ⟩ : ∃ J, J = W0.heap.size := ⟨_, rfl⟩
 have hbl0 : bl < W0.heap.size := Nat.lt_of_lt_of_le hbl hb0.size
 have HBLJ : Hid (bl < J) := hid (by rw [hJ]; exact hbl0)
 obtain ⟨O, hO⟩ : ∃ O, rd (k :: r) = O := ⟨_, rfl⟩
 rw [hO]
 rw [show (k.toNat : Int) = 1 by omega] at hcell
 obtain ⟨W1, hW1⟩ : ∃ W, W = W0.alloc (.cells #[.int .i64 1, .string ⟨#[]⟩, .int .i64 0, .int .i64 0, .int .i64 0, .int .i64 0, .int .i64 0, .string ⟨#[]⟩, .string ⟨#[]⟩, .int .i64 0, .slice none 0 0, .slice none 0 0, .int .i64 0, .int .i64 0, .bool false] 40) := ⟨_, rfl⟩
 have hb1 : Below W0.heap.size W0 W1 := be0 hW1
 have HJW : Hid (w.heap.size ≤ J ∧ J ≠ C) := hid ⟨by rw [hJ]; exact HB0.out.size, by rw [hJ]; exact Nat.ne_of_gt HBC0.out.lt⟩
 have HB1 : Hid (Below w.heap.size w W1) := hid (HB0.out.trans (hb1.mono HB0.out.size))
 have HBC1 := hid (HBC0.out.step hb1)
 have HBJ1 : Hid (BoxV J [.int .i64 1, .string ⟨#[]⟩, .int .i64 0, .int .i64 0, .int .i64 0, .int .i64 0, .int .i64 0, .string ⟨#[]⟩, .string ⟨#[]⟩, .int .i64 0, .slice none 0 0, .slice none 0 0, .int .i64 0, .int .i64 0, .bool false] W1) := hid (by rw [hW1]; exact BoxV.top _ hJ)
 have hm0 : ¬ ((m : Int) + 1 = 0) := by omega
 have hm1 : (((m : Int) + 1) == 0) = false := by simpa using hm0
 have hm3 : ¬ (3001 : Int) < (m : Int) + 1 := by omega
 have hm4 : (0 : Int) < (m : Int) + 1 := by omega
 have hm5 : (1 : Int) ≤ (m : Int) + 1 := by omega
 have hm6 : (m : Int) + 1 ≤ (cap : Int) := by omega
 have HM := hid hm
 have HL := hid hl
 have HQ := hid hq
 have HCP := hid hcap
 have HRJ0 := hid hO1
 clear hO1
 have hcell1 : W1.cell? ⟨bl, off, none⟩ = some (.int .u8 1) := (hb1.cell (p := ⟨bl, off, none⟩) hbl0).trans hcell
 have HBY1 := hid (HBY.out.below HB1.out)
 have hbl1 : bl < W1.heap.size := Nat.lt_of_lt_of_le hbl0 hb1.size
 obtain ⟨q, hqq⟩ : ∃ q, (if cap = 1 then some (⟨bl, off, none⟩ : Addr) else some ⟨bl, off + 1, none⟩) = some ⟨bl, q, none⟩ := by
  by_cases h : cap = 1
  ·exact ⟨off, by rw [if_pos h]⟩
  ·exact ⟨off + 1, by rw [if_neg h]⟩
 have HBR : Hid (BytA w (some ⟨bl, q, none⟩) r) := hid (by
  rw [← hqq]
  by_cases h : cap = 1
  ·have hr : r = [] := List.eq_nil_of_length_eq_zero (by omega)
   rw [hr]
   exact BytA.nil _ _
  ·rw [if_neg h]
   exact HBY.out.drop 1)
 have HQP := hid hqq
 have HO := hid hO
 clear hm hl hcap hmax hs hcells hbl hb0 hb1 hO hq hqq
 go_enter Tryz.func19, Tryz.ntmps19
 go_upto_region 1 with fail
 rw [← hW0, ← hC]
 clear hW0 hC
 go_upto_region 7 with fail
 rw [← hW1, ← hJ]
 clear hW1 hJ hcell hbl0
 obtain ⟨j0, j1, j2, j3, j4, j5, j6, j7, j8, j9, j10, j11, j12, j13, j14⟩ := HBJ1.out.c15
 obtain ⟨jf0, jf1, jf2, jf3, jf4, jf5, jf6, jf7, jf8, jf9, jf10, jf11, jf12, jf13, jf14⟩ := HBJ1.out.f15
 have hjl := HBJ1.out.lt
 go_upto_region 11 with fail
 have hconv := (HBR.out.below HB1.out).text HM.out (cap - 1)
 obtain ⟨R, hR⟩ : ∃ R, bts r = R := ⟨_, rfl⟩
 rw [hR] at hconv
 have HRD0 := jobReadR_any r W1 (.inl (by have := HM.out; have := HL.out; omega))
 rw [if_neg (by have := HM.out; have := HL.out; omega), if_neg (by have := HM.out; have := HL.out; omega), hR] at HRD0
 have HRD := hid HRD0
 have hqp := HQP.out
 clear HRD0 hR
 have hO1 := HRJ0.out
 rw [hO1] at HRD
 have HP : Hid (O = none) := hid (by rw [← HO.out]; unfold rd; simp only; rw [if_pos HQ.out, hO1])
 clear hO1
 go_wp2_with fail
 refine Calls.mono HRD.out ?_
 rintro e W2 ⟨hbn, he2⟩
 unfold jobVal at he2
 obtain rfl := he2
 have HB2 : Hid (Below w.heap.size w W2) := hid (HB1.out.trans (hbn.mono HB1.out.size))
 have HBC2 := hid (HBC1.out.step hbn)
 have HBJ2 : Hid (BoxV J [.int .i64 1, .string ⟨#[]⟩, .int .i64 0, .int .i64 0, .int .i64 0, .int .i64 0, .int .i64 0, .string ⟨#[]⟩, .string ⟨#[]⟩, .int .i64 0, .slice none 0 0, .slice none 0 0, .int .i64 0, .int .i64 0, .bool false] W2) := hid (HBJ1.out.step hbn)
 clear hjl j0 jf0 j1 jf1 j2 jf2 j3 jf3 j4 jf4 j5 jf5 j6 jf6 j7 jf7 j8 jf8 j9 jf9 j10 jf10 j11 jf11 j12 jf12 j13 jf13 j14 jf14
 clear hbn
 go_upto_region 12 with fail
 obtain ⟨W3, hW3⟩ : ∃ W, W2.alloc (.cells #[.string ⟨#[]⟩, .int .i64 0, .int .i64 0, .int .i64 0, .int .i64 0, .int .i64 0, .string ⟨#[]⟩, .string ⟨#[]⟩, .int .i64 0, .slice none 0 0, .slice none 0 0] 29) = W := ⟨_, rfl⟩
 have hbn : Below W2.heap.size W2 W3 := be0 hW3.symm
 obtain ⟨G, hG⟩ : ∃ G, G = W2.heap.size := ⟨_, rfl⟩
 have HBG3 : Hid (BoxV G [.string ⟨#[]⟩, .int .i64 0, .int .i64 0, .int .i64 0, .int .i64 0, .int .i64 0, .string ⟨#[]⟩, .string ⟨#[]⟩, .int .i64 0, .slice none 0 0, .slice none 0 0] W3) := hid (by rw [← hW3]; exact BoxV.top _ hG)
 have HB3 : Hid (Below w.heap.size w W3) := hid (HB2.out.trans (hbn.mono HB2.out.size))
 have HBC3 := hid (HBC2.out.step hbn)
 have HBJ3 : Hid (BoxV J [.int .i64 1, .string ⟨#[]⟩, .int .i64 0, .int .i64 0, .int .i64 0, .int .i64 0, .int .i64 0, .string ⟨#[]⟩, .string ⟨#[]⟩, .int .i64 0, .slice none 0 0, .slice none 0 0, .int .i64 0, .int .i64 0, .bool false] W3) := hid (HBJ2.out.step hbn)
 rw [hW3, ← hG]
 clear hbn hW3 hG hconv hqp
 obtain ⟨W4, hW4⟩ : ∃ W, (((((((((((W3.setCell ⟨J, 1, none⟩ (.string ⟨#[]⟩)).setCell ⟨J, 2, none⟩ (.int .i64 0)).setCell ⟨J, 3, none⟩ (.int .i64 0)).setCell ⟨J, 4, none⟩ (.int .i64 0)).setCell ⟨J, 5, none⟩ (.int .i64 0)).setCell ⟨J, 6, none⟩ (.int .i64 0)).setCell ⟨J, 7, none⟩ (.string ⟨#[]⟩)).setCell ⟨J, 8, none⟩ (.string ⟨#[]⟩)).setCell ⟨J, 9, none⟩ (.int .i64 0)).setCell ⟨J, 10, none⟩ (.slice none 0 0)).setCell ⟨J, 11, none⟩ (.slice none 0 0)) = W := ⟨_, rfl⟩
 have HB4 : Hid (Below w.heap.size w W4) := hid (by rw [← hW4]; exact (((((((((((HB3.out).setCell (p := ⟨J, 1, none⟩) HJW.out.1 _).setCell (p := ⟨J, 2, none⟩) HJW.out.1 _).setCell (p := ⟨J, 3, none⟩) HJW.out.1 _).setCell (p := ⟨J, 4, none⟩) HJW.out.1 _).setCell (p := ⟨J, 5, none⟩) HJW.out.1 _).setCell (p := ⟨J, 6, none⟩) HJW.out.1 _).setCell (p := ⟨J, 7, none⟩) HJW.out.1 _).setCell (p := ⟨J, 8, none⟩) HJW.out.1 _).setCell (p := ⟨J, 9, none⟩) HJW.out.1 _).setCell (p := ⟨J, 10, none⟩) HJW.out.1 _).setCell (p := ⟨J, 11, none⟩) HJW.out.1 _)
 have HBC4 : Hid (BoxV C [.int .i64 0, .string ⟨#[]⟩, .int .i64 0, .int .i64 0, .int .i64 0, .int .i64 0, .int .i64 0, .string ⟨#[]⟩, .string ⟨#[]⟩, .int .i64 0, .slice none 0 0, .slice none 0 0, .int .i64 0, .int .i64 0, .bool false] W4) := hid (by rw [← hW4]; exact (((((((((((HBC3.out).other (a := ⟨J, 1, none⟩) HJW.out.2 _).other (a := ⟨J, 2, none⟩) HJW.out.2 _).other (a := ⟨J, 3, none⟩) HJW.out.2 _).other (a := ⟨J, 4, none⟩) HJW.out.2 _).other (a := ⟨J, 5, none⟩) HJW.out.2 _).other (a := ⟨J, 6, none⟩) HJW.out.2 _).other (a := ⟨J, 7, none⟩) HJW.out.2 _).other (a := ⟨J, 8, none⟩) HJW.out.2 _).other (a := ⟨J, 9, none⟩) HJW.out.2 _).other (a := ⟨J, 10, none⟩) HJW.out.2 _).other (a := ⟨J, 11, none⟩) HJW.out.2 _)
 have HBJ4 : Hid (BoxV J [.int .i64 1, .string ⟨#[]⟩, .int .i64 0, .int .i64 0, .int .i64 0, .int .i64 0, .int .i64 0, .string ⟨#[]⟩, .string ⟨#[]⟩, .int .i64 0, .slice none 0 0, .slice none 0 0, .int .i64 0, .int .i64 0, .bool false] W4) := hid (by rw [← hW4]; exact (((((((((((HBJ3.out).set 1 _).set 2 _).set 3 _).set 4 _).set 5 _).set 6 _).set 7 _).set 8 _).set 9 _).set 10 _).set 11 _)
 obtain ⟨j0, j1, j2, j3, j4, j5, j6, j7, j8, j9, j10, j11, j12, j13, j14⟩ := HBJ3.out.c15
 obtain ⟨jf0, jf1, jf2, jf3, jf4, jf5, jf6, jf7, jf8, jf9, jf10, jf11, jf12, jf13, jf14⟩ := HBJ3.out.f15
 have hjl := HBJ3.out.lt
 obtain ⟨g0, g1, g2, g3, g4, g5, g6, g7, g8, g9, g10⟩ := HBG3.out.c11
 have hgl := HBG3.out.lt
 go_upto_region 27 with fail
 clear hW4 hgl g0 g1 g2 g3 g4 g5 g6 g7 g8 g9 g10
 clear hjl j0 jf0 j1 jf1 j2 jf2 j3 jf3 j4 jf4 j5 jf5 j6 jf6 j7 jf7 j8 jf8 j9 jf9 j10 jf10 j11 jf11 j12 jf12 j13 jf13 j14 jf14
 go_upto_region 28 with fail
 have HKX := KR.of (P := Tryz.prog) (by assumption)
 go_light
 obtain ⟨r0, r1, r2, r3, r4, r5, r6, r7, r8, r9, r10, r11, r12, r13, r14⟩ := HBC4.out.c15
 obtain ⟨rf0, rf1, rf2, rf3, rf4, rf5, rf6, rf7, rf8, rf9, rf10, rf11, rf12, rf13, rf14⟩ := HBC4.out.f15
 have hcl := HBC4.out.lt
 go_wp2_with fail
 refine HKX.fin ?_
 refine bodyPost_ret (v := .tuple #[.agg #[.int .i64 0, .string ⟨#[]⟩, .int .i64 0, .int .i64 0, .int .i64 0, .int .i64 0, .int .i64 0, .string ⟨#[]⟩, .string ⟨#[]⟩, .int .i64 0, .slice none 0 0, .slice none 0 0, .int .i64 0, .int .i64 0, .bool false], .int .i64 3]) (by simp [results, Tryz.results19, go_sem, cell_set, r0, r1, r2, r3, r4, r5, r6, r7, r8, r9, r10, r11, r12, r13, r14, hcl]) rfl ?_
 show DecQ w O 3 _ (puts W4 C 0 [.int .i64 0, .string ⟨#[]⟩, .int .i64 0, .int .i64 0, .int .i64 0, .int .i64 0, .int .i64 0, .string ⟨#[]⟩, .string ⟨#[]⟩, .int .i64 0, .slice none 0 0, .slice none 0 0, .int .i64 0, .int .i64 0, .bool false])
 rw [HP.out]
 exact ⟨puts_below C (Nat.le_of_eq HC.out.symm) _ _ _ HB4.out, rfl⟩
theorem eventOf_2y (k : UInt8) (r : Bs) (a : Option Addr) (m cap : Nat) (w : World) (hm : r.length = m) (hl : m ≤ 2000) (hcap : m + 1 ≤ cap) (hmax : cap ≤ 9223372036854775807) (hs : BytA w a (k :: r)) (hq : k.toNat = 2) (hmm : m = 4) : Calls Tryz.prog 19 #[.slice a (m + 1) cap] w (DecQ w (rd (k :: r)) 3) := by
 obtain ⟨C, hC⟩ : ∃ B, B = w.heap.size := ⟨_, rfl⟩
 obtain ⟨W0, hW0⟩ : ∃ W, W = w.alloc (.cells #[.int .i64 0, .string ⟨#[]⟩, .int .i64 0, .int .i64 0, .int .i64 0, .int .i64 0, .int .i64 0, .string ⟨#[]⟩, .string ⟨#[]⟩, .int .i64 0, .slice none 0 0, .slice none 0 0, .int .i64 0, .int .i64 0, .bool false] 40) := ⟨_, rfl⟩
 have HBC0 : Hid (BoxV C [.int .i64 0, .string ⟨#[]⟩, .int .i64 0, .int .i64 0, .int .i64 0, .int .i64 0, .int .i64 0, .string ⟨#[]⟩, .string ⟨#[]⟩, .int .i64 0, .slice none 0 0, .slice none 0 0, .int .i64 0, .int .i64 0, .bool false] W0) := hid (by rw [hW0]; exact BoxV.top _ hC)
 have hb0 : Below w.heap.size w W0 := be0 hW0
 have HB0 : Hid (Below w.heap.size w W0) := hid hb0
 have HC : Hid (C = w.heap.size) := hid hC
 obtain ⟨bl, off, rfl, hbl, hcells⟩ := hs.cell (i := 0) (c := k) rfl
 have hcell : W0.cell? ⟨bl, off, none⟩ = some (.int .u8 (k.toNat : Int)) := (hb0.cell (p := ⟨bl, off, none⟩) hbl).trans (hcells 0 k rfl)
 have HBY : Hid (BytA w (some ⟨bl, off, none⟩) (k :: r)) := hid hs
 obtain ⟨J, hJ⟩ : ∃ J, J = W0.heap.size := ⟨_, rfl⟩
 have hbl0 : bl < W0.heap.size := Nat.lt_of_lt_of_le hbl hb0.size
 have HBLJ : Hid (bl < J) := hid (by rw [hJ]; exact hbl0)
 obtain ⟨O, hO⟩ : ∃ O, rd (k :: r) = O := ⟨_, rfl⟩
 rw [hO]
 rw [show (k.toNat : Int) = 2 by omega] at hcell
 obtain ⟨W1, hW1⟩ : ∃ W, W = W0.alloc (.cells #[.int .i64 2, .string ⟨#[]⟩, .int .i64 0, .int .i64 0, .int .i64 0, .int .i64 0, .int .i64 0, .string ⟨#[]⟩, .string ⟨#[]⟩, .int .i64 0, .slice none 0 0, .slice none 0 0, .int .i64 0, .int .i64 0, .bool false] 40) := ⟨_, rfl⟩
 have hb1 : Below W0.heap.size W0 W1 := be0 hW1
 have HJW : Hid (w.heap.size ≤ J ∧ J ≠ C) := hid ⟨by rw [hJ]; exact HB0.out.size, by rw [hJ]; exact Nat.ne_of_gt HBC0.out.lt⟩
 have HB1 : Hid (Below w.heap.size w W1) := hid (HB0.out.trans (hb1.mono HB0.out.size))
 have HBC1 := hid (HBC0.out.step hb1)
 have HBJ1 : Hid (BoxV J [.int .i64 2, .string ⟨#[]⟩, .int .i64 0, .int .i64 0, .int .i64 0, .int .i64 0, .int .i64 0, .string ⟨#[]⟩, .string ⟨#[]⟩, .int .i64 0, .slice none 0 0, .slice none 0 0, .int .i64 0, .int .i64 0, .bool false] W1) := hid (by rw [hW1]; exact BoxV.top _ hJ)
 have hm0 : ¬ ((m : Int) + 1 = 0) := by omega
 have hm1 : (((m : Int) + 1) == 0) = false := by simpa using hm0
 have hm3 : ¬ (3001 : Int) < (m : Int) + 1 := by omega
 have hm4 : (0 : Int) < (m : Int) + 1 := by omega
 have hm5 : (1 : Int) ≤ (m : Int) + 1 := by omega
 have hm6 : (m : Int) + 1 ≤ (cap : Int) := by omega
 have HM := hid hm
 have HL := hid hl
 have HQ := hid hq
 have HCP := hid hcap
 have hcell1 : W1.cell? ⟨bl, off, none⟩ = some (.int .u8 2) := (hb1.cell (p := ⟨bl, off, none⟩) hbl0).trans hcell
 have HBY1 := hid (HBY.out.below HB1.out)
 have hbl1 : bl < W1.heap.size := Nat.lt_of_lt_of_le hbl0 hb1.size
 obtain ⟨q, hqq⟩ : ∃ q, (if cap = 1 then some (⟨bl, off, none⟩ : Addr) else some ⟨bl, off + 1, none⟩) = some ⟨bl, q, none⟩ := by
  by_cases h : cap = 1
  ·exact ⟨off, by rw [if_pos h]⟩
  ·exact ⟨off + 1, by rw [if_neg h]⟩
 have HBR : Hid (BytA w (some ⟨bl, q, none⟩) r) := hid (by
  rw [← hqq]
  by_cases h : cap = 1
  ·have hr : r = [] := List.eq_nil_of_length_eq_zero (by omega)
   rw [hr]
   exact BytA.nil _ _
  ·rw [if_neg h]
   exact HBY.out.drop 1)
 have HQP := hid hqq
 have HO := hid hO
 clear hm hl hcap hmax hs hcells hbl hb0 hb1 hO hq hqq
 go_enter Tryz.func19, Tryz.ntmps19
 go_upto_region 1 with fail
 rw [← hW0, ← hC]
 clear hW0 hC
 go_upto_region 7 with fail
 rw [← hW1, ← hJ]
 clear hW1 hJ hcell hbl0
 subst hmm
 obtain ⟨N, hN⟩ : ∃ N, numI (r) = N := ⟨_, rfl⟩
 have HVA := hid (value_any (r) (some ⟨bl, off + 1, none⟩) 4 (cap - 1) W1 HM.out (by decide) (by have h := (HBY.out.below HB1.out).drop 1; exact h))
 rw [hN] at HVA
 have hcapn : ¬ cap = 1 := by have := HCP.out; omega
 obtain ⟨W2, hW2⟩ : ∃ W, (W1.setCell ⟨J, 12, none⟩ (.int .i64 N)) = W := ⟨_, rfl⟩
 have HB2 : Hid (Below w.heap.size w W2) := hid (by rw [← hW2]; exact (HB1.out).setCell (p := ⟨J, 12, none⟩) HJW.out.1 _)
 have HBC2 : Hid (BoxV C [.int .i64 0, .string ⟨#[]⟩, .int .i64 0, .int .i64 0, .int .i64 0, .int .i64 0, .int .i64 0, .string ⟨#[]⟩, .string ⟨#[]⟩, .int .i64 0, .slice none 0 0, .slice none 0 0, .int .i64 0, .int .i64 0, .bool false] W2) := hid (by rw [← hW2]; exact (HBC1.out).other (a := ⟨J, 12, none⟩) HJW.out.2 _)
 have HBJ2 : Hid (BoxV J [.int .i64 2, .string ⟨#[]⟩, .int .i64 0, .int .i64 0, .int .i64 0, .int .i64 0, .int .i64 0, .string ⟨#[]⟩, .string ⟨#[]⟩, .int .i64 0, .slice none 0 0, .slice none 0 0, .int .i64 N, .int .i64 0, .bool false] W2) := hid (by rw [← hW2]; exact (HBJ1.out).set 12 _)
 obtain ⟨j0, j1, j2, j3, j4, j5, j6, j7, j8, j9, j10, j11, j12, j13, j14⟩ := HBJ1.out.c15
 obtain ⟨jf0, jf1, jf2, jf3, jf4, jf5, jf6, jf7, jf8, jf9, jf10, jf11, jf12, jf13, jf14⟩ := HBJ1.out.f15
 have hjl := HBJ1.out.lt
 go_wp2_with fail
 refine Calls.mono HVA.out ?_
 rintro e w2 ⟨rfl, hw2⟩
 subst hw2
 go_upto_region 27 with fail
 clear hW2
 clear hjl j0 jf0 j1 jf1 j2 jf2 j3 jf3 j4 jf4 j5 jf5 j6 jf6 j7 jf7 j8 jf8 j9 jf9 j10 jf10 j11 jf11 j12 jf12 j13 jf13 j14 jf14
 have HJN : Hid (JobN (C + 1) W2 zJb (jobVal ⟨#[]⟩ 0 0 0 0 0 ⟨#[]⟩ ⟨#[]⟩ 0 none 0 0 none 0 0)) := hid (JobN.zero _ _)
 have HCQ : Hid (C < C + 1) := hid (Nat.lt_succ_self _)
 obtain ⟨f, hf⟩ : ∃ f, (⟨2, zJb, N, 0, false⟩ : Evt).fault = f := ⟨_, rfl⟩
 have HOO : Hid (O = if f = 0 then some (⟨2, zJb, N, 0, false⟩) else none) := hid (by
  rw [← HO.out, ← hf, fault_two, ← hN]
  unfold rd
  simp only
  rw [if_neg (by rw [HQ.out]; decide), if_pos HQ.out]
  by_cases h : num r ≤ 1000000000
  ·have e1 : (if numI r < 0 ∨ 1000000000 < numI r then (4 : Int) else 0) = 0 := if_neg (by unfold numI; omega)
   rw [if_pos ⟨HM.out, h⟩, e1, if_pos rfl]
  ·have e1 : (if numI r < 0 ∨ 1000000000 < numI r then (4 : Int) else 0) = 4 := if_pos (by unfold numI; omega)
   rw [if_neg (fun e => h e.2), e1, if_neg (by decide)])
 have HYS : Hid ((⟨2, zJb, N, 0, false⟩ : Evt).job.ask.size ≤ 1000000000) := hid (zsize)
 clear hN
 have HEN0 := evFault_any (⟨2, zJb, N, 0, false⟩) _ W2 HYS.out (EvV.ofJob (y := ⟨2, zJb, N, 0, false⟩) HJN.out)
 rw [hf] at HEN0
 have HEN : Hid (Calls Tryz.prog 15 #[.agg #[.int .i64 2, .string ⟨#[]⟩, .int .i64 0, .int .i64 0, .int .i64 0, .int .i64 0, .int .i64 0, .string ⟨#[]⟩, .string ⟨#[]⟩, .int .i64 0, .slice none 0 0, .slice none 0 0, .int .i64 N, .int .i64 0, .bool false]] W2 fun e w' => e = .returned (.int .i64 f) ∧ Below W2.heap.size W2 w') := hid HEN0
 clear HEN0 hf
 obtain ⟨j0, j1, j2, j3, j4, j5, j6, j7, j8, j9, j10, j11, j12, j13, j14⟩ := HBJ2.out.c15
 obtain ⟨jf0, jf1, jf2, jf3, jf4, jf5, jf6, jf7, jf8, jf9, jf10, jf11, jf12, jf13, jf14⟩ := HBJ2.out.f15
 have hjl := HBJ2.out.lt
 go_wp2_with fail
 refine Calls.mono HEN.out ?_
 rintro e W5 ⟨rfl, hbn⟩
 have HB5 : Hid (Below w.heap.size w W5) := hid (HB2.out.trans (hbn.mono HB2.out.size))
 have HBC5 := hid (HBC2.out.step hbn)
 have HBJ5 : Hid (BoxV J [.int .i64 2, .string ⟨#[]⟩, .int .i64 0, .int .i64 0, .int .i64 0, .int .i64 0, .int .i64 0, .string ⟨#[]⟩, .string ⟨#[]⟩, .int .i64 0, .slice none 0 0, .slice none 0 0, .int .i64 N, .int .i64 0, .bool false] W5) := hid (HBJ2.out.step hbn)
 have HJN5 := hid (HJN.out.keep hbn.size (fun b _ hb => hbn.block b hb))
 clear hbn
 clear hjl j0 jf0 j1 jf1 j2 jf2 j3 jf3 j4 jf4 j5 jf5 j6 jf6 j7 jf7 j8 jf8 j9 jf9 j10 jf10 j11 jf11 j12 jf12 j13 jf13 j14 jf14
 by_cases h0 : f = 0
 ·subst h0
  have HP : Hid (O = some (⟨2, zJb, N, 0, false⟩)) := hid (by rw [HOO.out]; rfl)
  go_upto_region 29 with fail
  have HKX := KR.of (P := Tryz.prog) (by assumption)
  go_light
  obtain ⟨r0, r1, r2, r3, r4, r5, r6, r7, r8, r9, r10, r11, r12, r13, r14⟩ := HBC5.out.c15
  obtain ⟨rf0, rf1, rf2, rf3, rf4, rf5, rf6, rf7, rf8, rf9, rf10, rf11, rf12, rf13, rf14⟩ := HBC5.out.f15
  have hcl := HBC5.out.lt
  obtain ⟨e0, e1, e2, e3, e4, e5, e6, e7, e8, e9, e10, e11, e12, e13, e14⟩ := HBJ5.out.c15
  have hjl := HBJ5.out.lt
  go_wp2_with fail
  refine HKX.fin ?_
  refine bodyPost_ret (v := .tuple #[.agg #[.int .i64 2, .string ⟨#[]⟩, .int .i64 0, .int .i64 0, .int .i64 0, .int .i64 0, .int .i64 0, .string ⟨#[]⟩, .string ⟨#[]⟩, .int .i64 0, .slice none 0 0, .slice none 0 0, .int .i64 N, .int .i64 0, .bool false], .int .i64 0]) (by simp [results, Tryz.results19, go_sem, cell_set, r0, r1, r2, r3, r4, r5, r6, r7, r8, r9, r10, r11, r12, r13, r14, hcl]) rfl ?_
  show DecQ w O 3 _ (puts W5 C 0 [.int .i64 2, .string ⟨#[]⟩, .int .i64 0, .int .i64 0, .int .i64 0, .int .i64 0, .int .i64 0, .string ⟨#[]⟩, .string ⟨#[]⟩, .int .i64 0, .slice none 0 0, .slice none 0 0, .int .i64 N, .int .i64 0, .bool false])
  rw [HP.out]
  exact ⟨puts_below C (Nat.le_of_eq HC.out.symm) _ _ _ HB5.out, _, rfl, EvN.ofJob (JobN.low (JobN.keep HJN5.out (Nat.le_of_eq (puts_size _ _ _ _).symm) (fun b hb _ => puts_heap C (Nat.ne_of_gt (Nat.lt_of_lt_of_le HCQ.out hb)) _ _ _)) (by rw [← HC.out]; exact Nat.le_of_lt HCQ.out))⟩
 ·have hz : (f == 0) = false := by simpa using h0
  have hz2 : (f != 0) = true := by simpa using h0
  have HP : Hid (O = none) := hid (by rw [HOO.out]; exact if_neg h0)
  clear h0
  go_upto_region 28 with fail
  have HKX := KR.of (P := Tryz.prog) (by assumption)
  go_light
  obtain ⟨r0, r1, r2, r3, r4, r5, r6, r7, r8, r9, r10, r11, r12, r13, r14⟩ := HBC5.out.c15
  obtain ⟨rf0, rf1, rf2, rf3, rf4, rf5, rf6, rf7, rf8, rf9, rf10, rf11, rf12, rf13, rf14⟩ := HBC5.out.f15
  have hcl := HBC5.out.lt
  go_wp2_with fail
  refine HKX.fin ?_
  refine bodyPost_ret (v := .tuple #[.agg #[.int .i64 0, .string ⟨#[]⟩, .int .i64 0, .int .i64 0, .int .i64 0, .int .i64 0, .int .i64 0, .string ⟨#[]⟩, .string ⟨#[]⟩, .int .i64 0, .slice none 0 0, .slice none 0 0, .int .i64 0, .int .i64 0, .bool false], .int .i64 3]) (by simp [results, Tryz.results19, go_sem, cell_set, r0, r1, r2, r3, r4, r5, r6, r7, r8, r9, r10, r11, r12, r13, r14, hcl]) rfl ?_
  show DecQ w O 3 _ (puts W5 C 0 [.int .i64 0, .string ⟨#[]⟩, .int .i64 0, .int .i64 0, .int .i64 0, .int .i64 0, .int .i64 0, .string ⟨#[]⟩, .string ⟨#[]⟩, .int .i64 0, .slice none 0 0, .slice none 0 0, .int .i64 0, .int .i64 0, .bool false])
  rw [HP.out]
  exact ⟨puts_below C (Nat.le_of_eq HC.out.symm) _ _ _ HB5.out, rfl⟩
theorem eventOf_2n (k : UInt8) (r : Bs) (a : Option Addr) (m cap : Nat) (w : World) (hm : r.length = m) (hl : m ≤ 2000) (hcap : m + 1 ≤ cap) (hmax : cap ≤ 9223372036854775807) (hs : BytA w a (k :: r)) (hq : k.toNat = 2) (hm9 : ¬ m = 4) : Calls Tryz.prog 19 #[.slice a (m + 1) cap] w (DecQ w (rd (k :: r)) 3) := by
 obtain ⟨C, hC⟩ : ∃ B, B = w.heap.size := ⟨_, rfl⟩
 obtain ⟨W0, hW0⟩ : ∃ W, W = w.alloc (.cells #[.int .i64 0, .string ⟨#[]⟩, .int .i64 0, .int .i64 0, .int .i64 0, .int .i64 0, .int .i64 0, .string ⟨#[]⟩, .string ⟨#[]⟩, .int .i64 0, .slice none 0 0, .slice none 0 0, .int .i64 0, .int .i64 0, .bool false] 40) := ⟨_, rfl⟩
 have HBC0 : Hid (BoxV C [.int .i64 0, .string ⟨#[]⟩, .int .i64 0, .int .i64 0, .int .i64 0, .int .i64 0, .int .i64 0, .string ⟨#[]⟩, .string ⟨#[]⟩, .int .i64 0, .slice none 0 0, .slice none 0 0, .int .i64 0, .int .i64 0, .bool false] W0) := hid (by rw [hW0]; exact BoxV.top _ hC)
 have hb0 : Below w.heap.size w W0 := be0 hW0
 have HB0 : Hid (Below w.heap.size w W0) := hid hb0
 have HC : Hid (C = w.heap.size) := hid hC
 obtain ⟨bl, off, rfl, hbl, hcells⟩ := hs.cell (i := 0) (c := k) rfl
 have hcell : W0.cell? ⟨bl, off, none⟩ = some (.int .u8 (k.toNat : Int)) := (hb0.cell (p := ⟨bl, off, none⟩) hbl).trans (hcells 0 k rfl)
 have HBY : Hid (BytA w (some ⟨bl, off, none⟩) (k :: r)) := hid hs
 obtain ⟨J, hJ⟩ : ∃ J, J = W0.heap.size := ⟨_, rfl⟩
 have hbl0 : bl < W0.heap.size := Nat.lt_of_lt_of_le hbl hb0.size
 have HBLJ : Hid (bl < J) := hid (by rw [hJ]; exact hbl0)
 obtain ⟨O, hO⟩ : ∃ O, rd (k :: r) = O := ⟨_, rfl⟩
 rw [hO]
 rw [show (k.toNat : Int) = 2 by omega] at hcell
 obtain ⟨W1, hW1⟩ : ∃ W, W = W0.alloc (.cells #[.int .i64 2, .string ⟨#[]⟩, .int .i64 0, .int .i64 0, .int .i64 0, .int .i64 0, .int .i64 0, .string ⟨#[]⟩, .string ⟨#[]⟩, .int .i64 0, .slice none 0 0, .slice none 0 0, .int .i64 0, .int .i64 0, .bool false] 40) := ⟨_, rfl⟩
 have hb1 : Below W0.heap.size W0 W1 := be0 hW1
 have HJW : Hid (w.heap.size ≤ J ∧ J ≠ C) := hid ⟨by rw [hJ]; exact HB0.out.size, by rw [hJ]; exact Nat.ne_of_gt HBC0.out.lt⟩
 have HB1 : Hid (Below w.heap.size w W1) := hid (HB0.out.trans (hb1.mono HB0.out.size))
 have HBC1 := hid (HBC0.out.step hb1)
 have HBJ1 : Hid (BoxV J [.int .i64 2, .string ⟨#[]⟩, .int .i64 0, .int .i64 0, .int .i64 0, .int .i64 0, .int .i64 0, .string ⟨#[]⟩, .string ⟨#[]⟩, .int .i64 0, .slice none 0 0, .slice none 0 0, .int .i64 0, .int .i64 0, .bool false] W1) := hid (by rw [hW1]; exact BoxV.top _ hJ)
 have hm0 : ¬ ((m : Int) + 1 = 0) := by omega
 have hm1 : (((m : Int) + 1) == 0) = false := by simpa using hm0
 have hm3 : ¬ (3001 : Int) < (m : Int) + 1 := by omega
 have hm4 : (0 : Int) < (m : Int) + 1 := by omega
 have hm5 : (1 : Int) ≤ (m : Int) + 1 := by omega
 have hm6 : (m : Int) + 1 ≤ (cap : Int) := by omega
 have HM := hid hm
 have HL := hid hl
 have HQ := hid hq
 have HCP := hid hcap
 have hcell1 : W1.cell? ⟨bl, off, none⟩ = some (.int .u8 2) := (hb1.cell (p := ⟨bl, off, none⟩) hbl0).trans hcell
 have HBY1 := hid (HBY.out.below HB1.out)
 have hbl1 : bl < W1.heap.size := Nat.lt_of_lt_of_le hbl0 hb1.size
 obtain ⟨q, hqq⟩ : ∃ q, (if cap = 1 then some (⟨bl, off, none⟩ : Addr) else some ⟨bl, off + 1, none⟩) = some ⟨bl, q, none⟩ := by
  by_cases h : cap = 1
  ·exact ⟨off, by rw [if_pos h]⟩
  ·exact ⟨off + 1, by rw [if_neg h]⟩
 have HBR : Hid (BytA w (some ⟨bl, q, none⟩) r) := hid (by
  rw [← hqq]
  by_cases h : cap = 1
  ·have hr : r = [] := List.eq_nil_of_length_eq_zero (by omega)
   rw [hr]
   exact BytA.nil _ _
  ·rw [if_neg h]
   exact HBY.out.drop 1)
 have HQP := hid hqq
 have HO := hid hO
 clear hm hl hcap hmax hs hcells hbl hb0 hb1 hO hq hqq
 go_enter Tryz.func19, Tryz.ntmps19
 go_upto_region 1 with fail
 rw [← hW0, ← hC]
 clear hW0 hC
 go_upto_region 7 with fail
 rw [← hW1, ← hJ]
 clear hW1 hJ hcell hbl0
 have hne : ¬ (m : Int) + 1 = 5 := by omega
 have hne2 : (((m : Int) + 1) == 5) = false := by simpa using hne
 have hne3 : (((m : Int) + 1) != 5) = true := by simpa using hne
 have HP : Hid (O = none) := hid (by rw [← HO.out]; unfold rd; simp only; rw [if_neg (by rw [HQ.out]; decide), if_pos HQ.out]; exact if_neg (fun h => hm9 (HM.out.symm.trans h.1)))
 obtain ⟨j0, j1, j2, j3, j4, j5, j6, j7, j8, j9, j10, j11, j12, j13, j14⟩ := HBJ1.out.c15
 obtain ⟨jf0, jf1, jf2, jf3, jf4, jf5, jf6, jf7, jf8, jf9, jf10, jf11, jf12, jf13, jf14⟩ := HBJ1.out.f15
 have hjl := HBJ1.out.lt
 go_upto_region 27 with fail
 clear hjl j0 jf0 j1 jf1 j2 jf2 j3 jf3 j4 jf4 j5 jf5 j6 jf6 j7 jf7 j8 jf8 j9 jf9 j10 jf10 j11 jf11 j12 jf12 j13 jf13 j14 jf14
 go_upto_region 28 with fail
 have HKX := KR.of (P := Tryz.prog) (by assumption)
 go_light
 obtain ⟨r0, r1, r2, r3, r4, r5, r6, r7, r8, r9, r10, r11, r12, r13, r14⟩ := HBC1.out.c15
 obtain ⟨rf0, rf1, rf2, rf3, rf4, rf5, rf6, rf7, rf8, rf9, rf10, rf11, rf12, rf13, rf14⟩ := HBC1.out.f15
 have hcl := HBC1.out.lt
 go_wp2_with fail
 refine HKX.fin ?_
 refine bodyPost_ret (v := .tuple #[.agg #[.int .i64 0, .string ⟨#[]⟩, .int .i64 0, .int .i64 0, .int .i64 0, .int .i64 0, .int .i64 0, .string ⟨#[]⟩, .string ⟨#[]⟩, .int .i64 0, .slice none 0 0, .slice none 0 0, .int .i64 0, .int .i64 0, .bool false], .int .i64 3]) (by simp [results, Tryz.results19, go_sem, cell_set, r0, r1, r2, r3, r4, r5, r6, r7, r8, r9, r10, r11, r12, r13, r14, hcl]) rfl ?_
 show DecQ w O 3 _ (puts W1 C 0 [.int .i64 0, .string ⟨#[]⟩, .int .i64 0, .int .i64 0, .int .i64 0, .int .i64 0, .int .i64 0, .string ⟨#[]⟩, .string ⟨#[]⟩, .int .i64 0, .slice none 0 0, .slice none 0 0, .int .i64 0, .int .i64 0, .bool false])
 rw [HP.out]
 exact ⟨puts_below C (Nat.le_of_eq HC.out.symm) _ _ _ HB1.out, rfl⟩
theorem eventOf_3y (k : UInt8) (r : Bs) (a : Option Addr) (m cap : Nat) (w : World) (hm : r.length = m) (hl : m ≤ 2000) (hcap : m + 1 ≤ cap) (hmax : cap ≤ 9223372036854775807) (hs : BytA w a (k :: r)) (hq : k.toNat = 3) (hmm : m = 0) : Calls Tryz.prog 19 #[.slice a (m + 1) cap] w (DecQ w (rd (k :: r)) 3) := by
 obtain ⟨C, hC⟩ : ∃ B, B = w.heap.size := ⟨_, rfl⟩
 obtain ⟨W0, hW0⟩ : ∃ W, W = w.alloc (.cells #[.int .i64 0, .string ⟨#[]⟩, .int .i64 0, .int .i64 0, .int .i64 0, .int .i64 0, .int .i64 0, .string ⟨#[]⟩, .string ⟨#[]⟩, .int .i64 0, .slice none 0 0, .slice none 0 0, .int .i64 0, .int .i64 0, .bool false] 40) := ⟨_, rfl⟩
 have HBC0 : Hid (BoxV C [.int .i64 0, .string ⟨#[]⟩, .int .i64 0, .int .i64 0, .int .i64 0, .int .i64 0, .int .i64 0, .string ⟨#[]⟩, .string ⟨#[]⟩, .int .i64 0, .slice none 0 0, .slice none 0 0, .int .i64 0, .int .i64 0, .bool false] W0) := hid (by rw [hW0]; exact BoxV.top _ hC)
 have hb0 : Below w.heap.size w W0 := be0 hW0
 have HB0 : Hid (Below w.heap.size w W0) := hid hb0
 have HC : Hid (C = w.heap.size) := hid hC
 obtain ⟨bl, off, rfl, hbl, hcells⟩ := hs.cell (i := 0) (c := k) rfl
 have hcell : W0.cell? ⟨bl, off, none⟩ = some (.int .u8 (k.toNat : Int)) := (hb0.cell (p := ⟨bl, off, none⟩) hbl).trans (hcells 0 k rfl)
 have HBY : Hid (BytA w (some ⟨bl, off, none⟩) (k :: r)) := hid hs
 obtain ⟨J, hJ⟩ : ∃ J, J = W0.heap.size := ⟨_, rfl⟩
 have hbl0 : bl < W0.heap.size := Nat.lt_of_lt_of_le hbl hb0.size
 have HBLJ : Hid (bl < J) := hid (by rw [hJ]; exact hbl0)
 obtain ⟨O, hO⟩ : ∃ O, rd (k :: r) = O := ⟨_, rfl⟩
 rw [hO]
 rw [show (k.toNat : Int) = 3 by omega] at hcell
 obtain ⟨W1, hW1⟩ : ∃ W, W = W0.alloc (.cells #[.int .i64 3, .string ⟨#[]⟩, .int .i64 0, .int .i64 0, .int .i64 0, .int .i64 0, .int .i64 0, .string ⟨#[]⟩, .string ⟨#[]⟩, .int .i64 0, .slice none 0 0, .slice none 0 0, .int .i64 0, .int .i64 0, .bool false] 40) := ⟨_, rfl⟩
 have hb1 : Below W0.heap.size W0 W1 := be0 hW1
 have HJW : Hid (w.heap.size ≤ J ∧ J ≠ C) := hid ⟨by rw [hJ]; exact HB0.out.size, by rw [hJ]; exact Nat.ne_of_gt HBC0.out.lt⟩
 have HB1 : Hid (Below w.heap.size w W1) := hid (HB0.out.trans (hb1.mono HB0.out.size))
 have HBC1 := hid (HBC0.out.step hb1)
 have HBJ1 : Hid (BoxV J [.int .i64 3, .string ⟨#[]⟩, .int .i64 0, .int .i64 0, .int .i64 0, .int .i64 0, .int .i64 0, .string ⟨#[]⟩, .string ⟨#[]⟩, .int .i64 0, .slice none 0 0, .slice none 0 0, .int .i64 0, .int .i64 0, .bool false] W1) := hid (by rw [hW1]; exact BoxV.top _ hJ)
 have hm0 : ¬ ((m : Int) + 1 = 0) := by omega
 have hm1 : (((m : Int) + 1) == 0) = false := by simpa using hm0
 have hm3 : ¬ (3001 : Int) < (m : Int) + 1 := by omega
 have hm4 : (0 : Int) < (m : Int) + 1 := by omega
 have hm5 : (1 : Int) ≤ (m : Int) + 1 := by omega
 have hm6 : (m : Int) + 1 ≤ (cap : Int) := by omega
 have HM := hid hm
 have HL := hid hl
 have HQ := hid hq
 have HCP := hid hcap
 have hcell1 : W1.cell? ⟨bl, off, none⟩ = some (.int .u8 3) := (hb1.cell (p := ⟨bl, off, none⟩) hbl0).trans hcell
 have HBY1 := hid (HBY.out.below HB1.out)
 have hbl1 : bl < W1.heap.size := Nat.lt_of_lt_of_le hbl0 hb1.size
 obtain ⟨q, hqq⟩ : ∃ q, (if cap = 1 then some (⟨bl, off, none⟩ : Addr) else some ⟨bl, off + 1, none⟩) = some ⟨bl, q, none⟩ := by
  by_cases h : cap = 1
  ·exact ⟨off, by rw [if_pos h]⟩
  ·exact ⟨off + 1, by rw [if_neg h]⟩
 have HBR : Hid (BytA w (some ⟨bl, q, none⟩) r) := hid (by
  rw [← hqq]
  by_cases h : cap = 1
  ·have hr : r = [] := List.eq_nil_of_length_eq_zero (by omega)
   rw [hr]
   exact BytA.nil _ _
  ·rw [if_neg h]
   exact HBY.out.drop 1)
 have HQP := hid hqq
 have HO := hid hO
 clear hm hl hcap hmax hs hcells hbl hb0 hb1 hO hq hqq
 go_enter Tryz.func19, Tryz.ntmps19
 go_upto_region 1 with fail
 rw [← hW0, ← hC]
 clear hW0 hC
 go_upto_region 7 with fail
 rw [← hW1, ← hJ]
 clear hW1 hJ hcell hbl0
 subst hmm
 have HJN : Hid (JobN (C + 1) W1 zJb (jobVal ⟨#[]⟩ 0 0 0 0 0 ⟨#[]⟩ ⟨#[]⟩ 0 none 0 0 none 0 0)) := hid (JobN.zero _ _)
 have HCQ : Hid (C < C + 1) := hid (Nat.lt_succ_self _)
 obtain ⟨j0, j1, j2, j3, j4, j5, j6, j7, j8, j9, j10, j11, j12, j13, j14⟩ := HBJ1.out.c15
 obtain ⟨jf0, jf1, jf2, jf3, jf4, jf5, jf6, jf7, jf8, jf9, jf10, jf11, jf12, jf13, jf14⟩ := HBJ1.out.f15
 have hjl := HBJ1.out.lt
 go_upto_region 27 with fail
 clear hjl j0 jf0 j1 jf1 j2 jf2 j3 jf3 j4 jf4 j5 jf5 j6 jf6 j7 jf7 j8 jf8 j9 jf9 j10 jf10 j11 jf11 j12 jf12 j13 jf13 j14 jf14
 obtain ⟨f, hf⟩ : ∃ f, (⟨3, zJb, 0, 0, false⟩ : Evt).fault = f := ⟨_, rfl⟩
 have HOO : Hid (O = if f = 0 then some (⟨3, zJb, 0, 0, false⟩) else none) := hid (rd_fault HO.out (by unfold rd; simp only; rw [if_neg (by rw [HQ.out]; decide), if_neg (by rw [HQ.out]; decide), if_pos HQ.out, if_pos (List.eq_nil_of_length_eq_zero HM.out)]) hf)
 have HYS : Hid ((⟨3, zJb, 0, 0, false⟩ : Evt).job.ask.size ≤ 1000000000) := hid (zsize)
 have HEN0 := evFault_any (⟨3, zJb, 0, 0, false⟩) _ W1 HYS.out (EvV.ofJob (y := ⟨3, zJb, 0, 0, false⟩) HJN.out)
 rw [hf] at HEN0
 have HEN : Hid (Calls Tryz.prog 15 #[.agg #[.int .i64 3, .string ⟨#[]⟩, .int .i64 0, .int .i64 0, .int .i64 0, .int .i64 0, .int .i64 0, .string ⟨#[]⟩, .string ⟨#[]⟩, .int .i64 0, .slice none 0 0, .slice none 0 0, .int .i64 0, .int .i64 0, .bool false]] W1 fun e w' => e = .returned (.int .i64 f) ∧ Below W1.heap.size W1 w') := hid HEN0
 clear HEN0 hf
 obtain ⟨j0, j1, j2, j3, j4, j5, j6, j7, j8, j9, j10, j11, j12, j13, j14⟩ := HBJ1.out.c15
 obtain ⟨jf0, jf1, jf2, jf3, jf4, jf5, jf6, jf7, jf8, jf9, jf10, jf11, jf12, jf13, jf14⟩ := HBJ1.out.f15
 have hjl := HBJ1.out.lt
 go_wp2_with fail
 refine Calls.mono HEN.out ?_
 rintro e W5 ⟨rfl, hbn⟩
 have HB5 : Hid (Below w.heap.size w W5) := hid (HB1.out.trans (hbn.mono HB1.out.size))
 have HBC5 := hid (HBC1.out.step hbn)
 have HBJ5 : Hid (BoxV J [.int .i64 3, .string ⟨#[]⟩, .int .i64 0, .int .i64 0, .int .i64 0, .int .i64 0, .int .i64 0, .string ⟨#[]⟩, .string ⟨#[]⟩, .int .i64 0, .slice none 0 0, .slice none 0 0, .int .i64 0, .int .i64 0, .bool false] W5) := hid (HBJ1.out.step hbn)
 have HJN5 := hid (HJN.out.keep hbn.size (fun b _ hb => hbn.block b hb))
 clear hbn
 clear hjl j0 jf0 j1 jf1 j2 jf2 j3 jf3 j4 jf4 j5 jf5 j6 jf6 j7 jf7 j8 jf8 j9 jf9 j10 jf10 j11 jf11 j12 jf12 j13 jf13 j14 jf14
 by_cases h0 : f = 0
 ·subst h0
  have HP : Hid (O = some (⟨3, zJb, 0, 0, false⟩)) := hid (by rw [HOO.out]; rfl)
  go_upto_region 29 with fail
  have HKX := KR.of (P := Tryz.prog) (by assumption)
  go_light
  obtain ⟨r0, r1, r2, r3, r4, r5, r6, r7, r8, r9, r10, r11, r12, r13, r14⟩ := HBC5.out.c15
  obtain ⟨rf0, rf1, rf2, rf3, rf4, rf5, rf6, rf7, rf8, rf9, rf10, rf11, rf12, rf13, rf14⟩ := HBC5.out.f15
  have hcl := HBC5.out.lt
  obtain ⟨e0, e1, e2, e3, e4, e5, e6, e7, e8, e9, e10, e11, e12, e13, e14⟩ := HBJ5.out.c15
  have hjl := HBJ5.out.lt
  go_wp2_with fail
  refine HKX.fin ?_
  refine bodyPost_ret (v := .tuple #[.agg #[.int .i64 3, .string ⟨#[]⟩, .int .i64 0, .int .i64 0, .int .i64 0, .int .i64 0, .int .i64 0, .string ⟨#[]⟩, .string ⟨#[]⟩, .int .i64 0, .slice none 0 0, .slice none 0 0, .int .i64 0, .int .i64 0, .bool false], .int .i64 0]) (by simp [results, Tryz.results19, go_sem, cell_set, r0, r1, r2, r3, r4, r5, r6, r7, r8, r9, r10, r11, r12, r13, r14, hcl]) rfl ?_
  show DecQ w O 3 _ (puts W5 C 0 [.int .i64 3, .string ⟨#[]⟩, .int .i64 0, .int .i64 0, .int .i64 0, .int .i64 0, .int .i64 0, .string ⟨#[]⟩, .string ⟨#[]⟩, .int .i64 0, .slice none 0 0, .slice none 0 0, .int .i64 0, .int .i64 0, .bool false])
  rw [HP.out]
  exact ⟨puts_below C (Nat.le_of_eq HC.out.symm) _ _ _ HB5.out, _, rfl, EvN.ofJob (JobN.low (JobN.keep HJN5.out (Nat.le_of_eq (puts_size _ _ _ _).symm) (fun b hb _ => puts_heap C (Nat.ne_of_gt (Nat.lt_of_lt_of_le HCQ.out hb)) _ _ _)) (by rw [← HC.out]; exact Nat.le_of_lt HCQ.out))⟩
 ·have hz : (f == 0) = false := by simpa using h0
  have hz2 : (f != 0) = true := by simpa using h0
  have HP : Hid (O = none) := hid (by rw [HOO.out]; exact if_neg h0)
  clear h0
  go_upto_region 28 with fail
  have HKX := KR.of (P := Tryz.prog) (by assumption)
  go_light
  obtain ⟨r0, r1, r2, r3, r4, r5, r6, r7, r8, r9, r10, r11, r12, r13, r14⟩ := HBC5.out.c15
  obtain ⟨rf0, rf1, rf2, rf3, rf4, rf5, rf6, rf7, rf8, rf9, rf10, rf11, rf12, rf13, rf14⟩ := HBC5.out.f15
  have hcl := HBC5.out.lt
  go_wp2_with fail
  refine HKX.fin ?_
  refine bodyPost_ret (v := .tuple #[.agg #[.int .i64 0, .string ⟨#[]⟩, .int .i64 0, .int .i64 0, .int .i64 0, .int .i64 0, .int .i64 0, .string ⟨#[]⟩, .string ⟨#[]⟩, .int .i64 0, .slice none 0 0, .slice none 0 0, .int .i64 0, .int .i64 0, .bool false], .int .i64 3]) (by simp [results, Tryz.results19, go_sem, cell_set, r0, r1, r2, r3, r4, r5, r6, r7, r8, r9, r10, r11, r12, r13, r14, hcl]) rfl ?_
  show DecQ w O 3 _ (puts W5 C 0 [.int .i64 0, .string ⟨#[]⟩, .int .i64 0, .int .i64 0, .int .i64 0, .int .i64 0, .int .i64 0, .string ⟨#[]⟩, .string ⟨#[]⟩, .int .i64 0, .slice none 0 0, .slice none 0 0, .int .i64 0, .int .i64 0, .bool false])
  rw [HP.out]
  exact ⟨puts_below C (Nat.le_of_eq HC.out.symm) _ _ _ HB5.out, rfl⟩
theorem eventOf_3n (k : UInt8) (r : Bs) (a : Option Addr) (m cap : Nat) (w : World) (hm : r.length = m) (hl : m ≤ 2000) (hcap : m + 1 ≤ cap) (hmax : cap ≤ 9223372036854775807) (hs : BytA w a (k :: r)) (hq : k.toNat = 3) (hm9 : ¬ m = 0) : Calls Tryz.prog 19 #[.slice a (m + 1) cap] w (DecQ w (rd (k :: r)) 3) := by
 obtain ⟨C, hC⟩ : ∃ B, B = w.heap.size := ⟨_, rfl⟩
 obtain ⟨W0, hW0⟩ : ∃ W, W = w.alloc (.cells #[.int .i64 0, .string ⟨#[]⟩, .int .i64 0, .int .i64 0, .int .i64 0, .int .i64 0, .int .i64 0, .string ⟨#[]⟩, .string ⟨#[]⟩, .int .i64 0, .slice none 0 0, .slice none 0 0, .int .i64 0, .int .i64 0, .bool false] 40) := ⟨_, rfl⟩
 have HBC0 : Hid (BoxV C [.int .i64 0, .string ⟨#[]⟩, .int .i64 0, .int .i64 0, .int .i64 0, .int .i64 0, .int .i64 0, .string ⟨#[]⟩, .string ⟨#[]⟩, .int .i64 0, .slice none 0 0, .slice none 0 0, .int .i64 0, .int .i64 0, .bool false] W0) := hid (by rw [hW0]; exact BoxV.top _ hC)
 have hb0 : Below w.heap.size w W0 := be0 hW0
 have HB0 : Hid (Below w.heap.size w W0) := hid hb0
 have HC : Hid (C = w.heap.size) := hid hC
 obtain ⟨bl, off, rfl, hbl, hcells⟩ := hs.cell (i := 0) (c := k) rfl
 have hcell : W0.cell? ⟨bl, off, none⟩ = some (.int .u8 (k.toNat : Int)) := (hb0.cell (p := ⟨bl, off, none⟩) hbl).trans (hcells 0 k rfl)
 have HBY : Hid (BytA w (some ⟨bl, off, none⟩) (k :: r)) := hid hs
 obtain ⟨J, hJ⟩ : ∃ J, J = W0.heap.size := ⟨_, rfl⟩
 have hbl0 : bl < W0.heap.size := Nat.lt_of_lt_of_le hbl hb0.size
 have HBLJ : Hid (bl < J) := hid (by rw [hJ]; exact hbl0)
 obtain ⟨O, hO⟩ : ∃ O, rd (k :: r) = O := ⟨_, rfl⟩
 rw [hO]
 rw [show (k.toNat : Int) = 3 by omega] at hcell
 obtain ⟨W1, hW1⟩ : ∃ W, W = W0.alloc (.cells #[.int .i64 3, .string ⟨#[]⟩, .int .i64 0, .int .i64 0, .int .i64 0, .int .i64 0, .int .i64 0, .string ⟨#[]⟩, .string ⟨#[]⟩, .int .i64 0, .slice none 0 0, .slice none 0 0, .int .i64 0, .int .i64 0, .bool false] 40) := ⟨_, rfl⟩
 have hb1 : Below W0.heap.size W0 W1 := be0 hW1
 have HJW : Hid (w.heap.size ≤ J ∧ J ≠ C) := hid ⟨by rw [hJ]; exact HB0.out.size, by rw [hJ]; exact Nat.ne_of_gt HBC0.out.lt⟩
 have HB1 : Hid (Below w.heap.size w W1) := hid (HB0.out.trans (hb1.mono HB0.out.size))
 have HBC1 := hid (HBC0.out.step hb1)
 have HBJ1 : Hid (BoxV J [.int .i64 3, .string ⟨#[]⟩, .int .i64 0, .int .i64 0, .int .i64 0, .int .i64 0, .int .i64 0, .string ⟨#[]⟩, .string ⟨#[]⟩, .int .i64 0, .slice none 0 0, .slice none 0 0, .int .i64 0, .int .i64 0, .bool false] W1) := hid (by rw [hW1]; exact BoxV.top _ hJ)
 have hm0 : ¬ ((m : Int) + 1 = 0) := by omega
 have hm1 : (((m : Int) + 1) == 0) = false := by simpa using hm0
 have hm3 : ¬ (3001 : Int) < (m : Int) + 1 := by omega
 have hm4 : (0 : Int) < (m : Int) + 1 := by omega
 have hm5 : (1 : Int) ≤ (m : Int) + 1 := by omega
 have hm6 : (m : Int) + 1 ≤ (cap : Int) := by omega
 have HM := hid hm
 have HL := hid hl
 have HQ := hid hq
 have HCP := hid hcap
 have hcell1 : W1.cell? ⟨bl, off, none⟩ = some (.int .u8 3) := (hb1.cell (p := ⟨bl, off, none⟩) hbl0).trans hcell
 have HBY1 := hid (HBY.out.below HB1.out)
 have hbl1 : bl < W1.heap.size := Nat.lt_of_lt_of_le hbl0 hb1.size
 obtain ⟨q, hqq⟩ : ∃ q, (if cap = 1 then some (⟨bl, off, none⟩ : Addr) else some ⟨bl, off + 1, none⟩) = some ⟨bl, q, none⟩ := by
  by_cases h : cap = 1
  ·exact ⟨off, by rw [if_pos h]⟩
  ·exact ⟨off + 1, by rw [if_neg h]⟩
 have HBR : Hid (BytA w (some ⟨bl, q, none⟩) r) := hid (by
  rw [← hqq]
  by_cases h : cap = 1
  ·have hr : r = [] := List.eq_nil_of_length_eq_zero (by omega)
   rw [hr]
   exact BytA.nil _ _
  ·rw [if_neg h]
   exact HBY.out.drop 1)
 have HQP := hid hqq
 have HO := hid hO
 clear hm hl hcap hmax hs hcells hbl hb0 hb1 hO hq hqq
 go_enter Tryz.func19, Tryz.ntmps19
 go_upto_region 1 with fail
 rw [← hW0, ← hC]
 clear hW0 hC
 go_upto_region 7 with fail
 rw [← hW1, ← hJ]
 clear hW1 hJ hcell hbl0
 have hne : ¬ (m : Int) + 1 = 1 := by omega
 have hne2 : (((m : Int) + 1) == 1) = false := by simpa using hne
 have hne3 : (((m : Int) + 1) != 1) = true := by simpa using hne
 have HP : Hid (O = none) := hid (by rw [← HO.out]; unfold rd; simp only; rw [if_neg (by rw [HQ.out]; decide), if_neg (by rw [HQ.out]; decide), if_pos HQ.out]; exact if_neg (fun h => hm9 (by rw [← HM.out, h]; rfl)))
 obtain ⟨j0, j1, j2, j3, j4, j5, j6, j7, j8, j9, j10, j11, j12, j13, j14⟩ := HBJ1.out.c15
 obtain ⟨jf0, jf1, jf2, jf3, jf4, jf5, jf6, jf7, jf8, jf9, jf10, jf11, jf12, jf13, jf14⟩ := HBJ1.out.f15
 have hjl := HBJ1.out.lt
 go_upto_region 27 with fail
 clear hjl j0 jf0 j1 jf1 j2 jf2 j3 jf3 j4 jf4 j5 jf5 j6 jf6 j7 jf7 j8 jf8 j9 jf9 j10 jf10 j11 jf11 j12 jf12 j13 jf13 j14 jf14
 go_upto_region 28 with fail
 have HKX := KR.of (P := Tryz.prog) (by assumption)
 go_light
 obtain ⟨r0, r1, r2, r3, r4, r5, r6, r7, r8, r9, r10, r11, r12, r13, r14⟩ := HBC1.out.c15
 obtain ⟨rf0, rf1, rf2, rf3, rf4, rf5, rf6, rf7, rf8, rf9, rf10, rf11, rf12, rf13, rf14⟩ := HBC1.out.f15
 have hcl := HBC1.out.lt
 go_wp2_with fail
 refine HKX.fin ?_
 refine bodyPost_ret (v := .tuple #[.agg #[.int .i64 0, .string ⟨#[]⟩, .int .i64 0, .int .i64 0, .int .i64 0, .int .i64 0, .int .i64 0, .string ⟨#[]⟩, .string ⟨#[]⟩, .int .i64 0, .slice none 0 0, .slice none 0 0, .int .i64 0, .int .i64 0, .bool false], .int .i64 3]) (by simp [results, Tryz.results19, go_sem, cell_set, r0, r1, r2, r3, r4, r5, r6, r7, r8, r9, r10, r11, r12, r13, r14, hcl]) rfl ?_
 show DecQ w O 3 _ (puts W1 C 0 [.int .i64 0, .string ⟨#[]⟩, .int .i64 0, .int .i64 0, .int .i64 0, .int .i64 0, .int .i64 0, .string ⟨#[]⟩, .string ⟨#[]⟩, .int .i64 0, .slice none 0 0, .slice none 0 0, .int .i64 0, .int .i64 0, .bool false])
 rw [HP.out]
 exact ⟨puts_below C (Nat.le_of_eq HC.out.symm) _ _ _ HB1.out, rfl⟩
end Go.Proofs.YtkemlckmfgacdaaGreatDoor
