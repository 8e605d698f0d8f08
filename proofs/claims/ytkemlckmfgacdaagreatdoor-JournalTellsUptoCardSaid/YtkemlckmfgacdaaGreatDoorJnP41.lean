/- Contract: event.Decode. -/
import Derived.Test.YtkemlckmfgacdaaGreatDoorJnP40
import Derived.Deep.Light
namespace Go.Proofs.YtkemlckmfgacdaaGreatDoor
set_option maxRecDepth 20000
set_option maxHeartbeats 64000000
open Go.ChangeShapes Go.WideShapes Go.ChangeAt Go.RowKit
set_option linter.unusedVariables false
set_option linter.unusedSimpArgs false
open Tp Jm Ev
theorem decode_long (s : Bs) (a : Option Addr) (n cap : Nat) (w : World) (hn : s.length = n) (hl : 3001 < n) : Calls Tryz.prog 14 #[.slice a n cap] w (DecQ w none 2) := by
 obtain ⟨C, hC⟩ : ∃ B, B = w.heap.size := ⟨_, rfl⟩
 obtain ⟨W0, hW0⟩ : ∃ W, W = w.alloc (.cells #[.int .i64 0, .string ⟨#[]⟩, .int .i64 0, .int .i64 0, .int .i64 0, .int .i64 0, .int .i64 0, .string ⟨#[]⟩, .string ⟨#[]⟩, .int .i64 0, .slice none 0 0, .slice none 0 0, .int .i64 0, .int .i64 0, .bool false] 40) := ⟨_, rfl⟩
 have HBC0 : Hid (BoxV C [.int .i64 0, .string ⟨#[]⟩, .int .i64 0, .int .i64 0, .int .i64 0, .int .i64 0, .int .i64 0, .string ⟨#[]⟩, .string ⟨#[]⟩, .int .i64 0, .slice none 0 0, .slice none 0 0, .int .i64 0, .int .i64 0, .bool false] W0) := hid (by rw [hW0]; exact BoxV.top _ hC)
 have hb0 : Below w.heap.size w W0 := be0 hW0
 have HB0 : Hid (Below w.heap.size w W0) := hid hb0
 have HC : Hid (C = w.heap.size) := hid hC
 have hn3 : (3001 : Int) < (n : Int) := by omega
 obtain ⟨O, hO⟩ : ∃ O : Option Evt, O = none := ⟨_, rfl⟩
 have HP := hid hO
 rw [← hO]
 clear hO hn hl hb0
 go_enter Tryz.func14, Tryz.ntmps14
 go_upto_region 1 with fail
 rw [← hW0, ← hC]
 clear hW0 hC
 obtain ⟨r0, r1, r2, r3, r4, r5, r6, r7, r8, r9, r10, r11, r12, r13, r14⟩ := HBC0.out.c15
 obtain ⟨rf0, rf1, rf2, rf3, rf4, rf5, rf6, rf7, rf8, rf9, rf10, rf11, rf12, rf13, rf14⟩ := HBC0.out.f15
 have hcl := HBC0.out.lt
 go_wp2_with fail
 refine bodyPost_ret (v := .tuple #[.agg #[.int .i64 0, .string ⟨#[]⟩, .int .i64 0, .int .i64 0, .int .i64 0, .int .i64 0, .int .i64 0, .string ⟨#[]⟩, .string ⟨#[]⟩, .int .i64 0, .slice none 0 0, .slice none 0 0, .int .i64 0, .int .i64 0, .bool false], .int .i64 2]) (by simp [results, Tryz.results14, go_sem, cell_set, r0, r1, r2, r3, r4, r5, r6, r7, r8, r9, r10, r11, r12, r13, r14, hcl]) rfl ?_
 show DecQ w O 2 _ (puts W0 C 0 [.int .i64 0, .string ⟨#[]⟩, .int .i64 0, .int .i64 0, .int .i64 0, .int .i64 0, .int .i64 0, .string ⟨#[]⟩, .string ⟨#[]⟩, .int .i64 0, .slice none 0 0, .slice none 0 0, .int .i64 0, .int .i64 0, .bool false])
 rw [HP.out]
 exact ⟨puts_below C (Nat.le_of_eq HC.out.symm) _ _ _ HB0.out, rfl⟩
theorem decode_none (a : Option Addr) (cap : Nat) (w : World) : Calls Tryz.prog 14 #[.slice a 0 cap] w (DecQ w none 3) := by
 obtain ⟨C, hC⟩ : ∃ B, B = w.heap.size := ⟨_, rfl⟩
 obtain ⟨W0, hW0⟩ : ∃ W, W = w.alloc (.cells #[.int .i64 0, .string ⟨#[]⟩, .int .i64 0, .int .i64 0, .int .i64 0, .int .i64 0, .int .i64 0, .string ⟨#[]⟩, .string ⟨#[]⟩, .int .i64 0, .slice none 0 0, .slice none 0 0, .int .i64 0, .int .i64 0, .bool false] 40) := ⟨_, rfl⟩
 have HBC0 : Hid (BoxV C [.int .i64 0, .string ⟨#[]⟩, .int .i64 0, .int .i64 0, .int .i64 0, .int .i64 0, .int .i64 0, .string ⟨#[]⟩, .string ⟨#[]⟩, .int .i64 0, .slice none 0 0, .slice none 0 0, .int .i64 0, .int .i64 0, .bool false] W0) := hid (by rw [hW0]; exact BoxV.top _ hC)
 have hb0 : Below w.heap.size w W0 := be0 hW0
 have HB0 : Hid (Below w.heap.size w W0) := hid hb0
 have HC : Hid (C = w.heap.size) := hid hC
 obtain ⟨O, hO⟩ : ∃ O : Option Evt, O = none := ⟨_, rfl⟩
 have HP := hid hO
 rw [← hO]
 clear hO hb0
 go_enter Tryz.func14, Tryz.ntmps14
 go_upto_region 1 with fail
 rw [← hW0, ← hC]
 clear hW0 hC
 obtain ⟨r0, r1, r2, r3, r4, r5, r6, r7, r8, r9, r10, r11, r12, r13, r14⟩ := HBC0.out.c15
 obtain ⟨rf0, rf1, rf2, rf3, rf4, rf5, rf6, rf7, rf8, rf9, rf10, rf11, rf12, rf13, rf14⟩ := HBC0.out.f15
 have hcl := HBC0.out.lt
 go_wp2_with fail
 refine bodyPost_ret (v := .tuple #[.agg #[.int .i64 0, .string ⟨#[]⟩, .int .i64 0, .int .i64 0, .int .i64 0, .int .i64 0, .int .i64 0, .string ⟨#[]⟩, .string ⟨#[]⟩, .int .i64 0, .slice none 0 0, .slice none 0 0, .int .i64 0, .int .i64 0, .bool false], .int .i64 3]) (by simp [results, Tryz.results14, go_sem, cell_set, r0, r1, r2, r3, r4, r5, r6, r7, r8, r9, r10, r11, r12, r13, r14, hcl]) rfl ?_
 show DecQ w O 3 _ (puts W0 C 0 [.int .i64 0, .string ⟨#[]⟩, .int .i64 0, .int .i64 0, .int .i64 0, .int .i64 0, .int .i64 0, .string ⟨#[]⟩, .string ⟨#[]⟩, .int .i64 0, .slice none 0 0, .slice none 0 0, .int .i64 0, .int .i64 0, .bool false])
 rw [HP.out]
 exact ⟨puts_below C (Nat.le_of_eq HC.out.symm) _ _ _ HB0.out, rfl⟩
theorem decode_1n (k : UInt8) (r : Bs) (a : Option Addr) (m cap : Nat) (w : World) (hm : r.length = m) (hl : m ≤ 3000) (hcap : m + 1 ≤ cap) (hmax : cap ≤ 9223372036854775807) (he : Env w) (hs : BytA w a (k :: r)) (hq : k.toNat = 1) (hO1 : rdA r = none) : Calls Tryz.prog 14 #[.slice a (m + 1) cap] w (DecQ w (rd (k :: r)) 3) := by
 obtain ⟨C, hC⟩ : ∃ B, B = w.heap.size := ⟨_, rfl⟩
 obtain ⟨W0, hW0⟩ : ∃ W, W = w.alloc (.cells #[.int .i64 0, .string ⟨#[]⟩, .int .i64 0, .int .i64 0, .int .i64 0, .int .i64 0, .int .i64 0, .string ⟨#[]⟩, .string ⟨#[]⟩, .int .i64 0, .slice none 0 0, .slice none 0 0, .int .i64 0, .int .i64 0, .bool false] 40) := ⟨_, rfl⟩
 have HBC0 : Hid (BoxV C [.int .i64 0, .string ⟨#[]⟩, .int .i64 0, .int .i64 0, .int .i64 0, .int .i64 0, .int .i64 0, .string ⟨#[]⟩, .string ⟨#[]⟩, .int .i64 0, .slice none 0 0, .slice none 0 0, .int .i64 0, .int .i64 0, .bool false] W0) := hid (by rw [hW0]; exact BoxV.top _ hC)
 have hb0 : Below w.heap.size w W0 := be0 hW0
 have HB0 : Hid (Below w.heap.size w W0) := hid hb0
 have HC : Hid (C = w.heap.size) := hid hC
 obtain ⟨bl, off, rfl, hbl, hcells⟩ := hs.cell (i := 0) (c := k) rfl
 have hcell : W0.cell? ⟨bl, off, none⟩ = some (.int .u8 (k.toNat : Int)) := (hb0.cell (p := ⟨bl, off, none⟩) hbl).trans (hcells 0 k rfl)
 have HBY : Hid (BytA w (some ⟨bl, off, none⟩) (k :: r)) := hid hs
 obtain ⟨J, hJ⟩ : ∃ J, J = W0.heap.size := ⟨_, rfl⟩
 have hbl0 : bl < W0.heap.size := Nat.lt_of_lt_of_le hbl hb0.size
 obtain ⟨O, hO⟩ : ∃ O, rd (k :: r) = O := ⟨_, rfl⟩
 have HO : Hid (keep (first k.toNat r) (k :: r) = O) := hid ((keep_first k r).trans hO)
 rw [hO]
 obtain ⟨K, hK⟩ : ∃ K, k.toNat = K := ⟨_, rfl⟩
 have hK2 : K < 256 := by rw [← hK]; exact k.toNat_lt
 rw [hK] at hcell HO hq
 obtain ⟨KI, hKI⟩ : ∃ KI : Int, (K : Int) = KI := ⟨_, rfl⟩
 have hK0 : 0 ≤ KI := by omega
 have hK3 : KI < 256 := by omega
 rw [hKI] at hcell
 have HKI := hid hKI
 clear hKI hK2
 obtain ⟨W1, hW1⟩ : ∃ W, W = W0.alloc (.cells #[.int .i64 KI, .string ⟨#[]⟩, .int .i64 0, .int .i64 0, .int .i64 0, .int .i64 0, .int .i64 0, .string ⟨#[]⟩, .string ⟨#[]⟩, .int .i64 0, .slice none 0 0, .slice none 0 0, .int .i64 0, .int .i64 0, .bool false] 40) := ⟨_, rfl⟩
 have hb1 : Below W0.heap.size W0 W1 := be0 hW1
 have HJW : Hid (w.heap.size ≤ J ∧ J ≠ C) := hid ⟨by rw [hJ]; exact HB0.out.size, by rw [hJ]; exact Nat.ne_of_gt HBC0.out.lt⟩
 have HB1 : Hid (Below w.heap.size w W1) := hid (HB0.out.trans (hb1.mono HB0.out.size))
 have HBC1 := hid (HBC0.out.step hb1)
 have HBJ1 : Hid (BoxV J [.int .i64 KI, .string ⟨#[]⟩, .int .i64 0, .int .i64 0, .int .i64 0, .int .i64 0, .int .i64 0, .string ⟨#[]⟩, .string ⟨#[]⟩, .int .i64 0, .slice none 0 0, .slice none 0 0, .int .i64 0, .int .i64 0, .bool false] W1) := hid (by rw [hW1]; exact BoxV.top _ hJ)
 have HEV : Hid (∀ W, Below w.heap.size w W → Env W) := hid (fun W h => he.below h lr)
 have HBx1 := HB1
 have hm0 : ¬ ((m : Int) + 1 = 0) := by omega
 have hm1 : (((m : Int) + 1) == 0) = false := by simpa using hm0
 have hm3 : ¬ (3001 : Int) < (m : Int) + 1 := by omega
 have hm4 : (0 : Int) < (m : Int) + 1 := by omega
 have hm5 : (1 : Int) ≤ (m : Int) + 1 := by omega
 have hm6 : (m : Int) + 1 ≤ (cap : Int) := by omega
 have HM := hid hm
 have HQ : Hid (K = 1) := hid hq
 have HRJ0 := hid hO1
 clear hO1
 have HL := hid hl
 clear hm hl hcap hmax he hs hcells hbl hb0 hb1 hO hK hq
 go_enter Tryz.func14, Tryz.ntmps14
 go_upto_region 1 with fail
 rw [← hW0, ← hC]
 clear hW0 hC
 go_upto_region 6 with fail
 rw [← hW1, ← hJ]
 clear hW1 hJ hcell hbl0
 go_upto_region 7 with fail
 obtain ⟨q, hq⟩ : ∃ q, (if cap = 1 then some (⟨bl, off, none⟩ : Addr) else some ⟨bl, off + 1, none⟩) = some ⟨bl, q, none⟩ := by
  by_cases h : cap = 1
  ·exact ⟨off, by rw [if_pos h]⟩
  ·exact ⟨off + 1, by rw [if_neg h]⟩
 have HBR : Hid (BytA w (some ⟨bl, q, none⟩) r) := hid (by
  rw [← hq]
  by_cases h : cap = 1
  ·have hr : r = [] := List.eq_nil_of_length_eq_zero (by have := HM.out; omega)
   rw [hr]
   exact BytA.nil _ _
  ·rw [if_neg h]
   exact HBY.out.drop 1)
 rw [hq]
 obtain ⟨cap1, hcap1⟩ : ∃ c, cap - 1 = c := ⟨_, rfl⟩
 have hmc : m ≤ cap1 := by omega
 rw [hcap1]
 clear hq hcap1
 obtain ⟨t, ht⟩ : ∃ t, min 4 m = t := ⟨_, rfl⟩
 have HT : Hid (min 4 m = t) := hid ht
 clear ht
 have hmin : min (4 : Int) (m : Int) = (t : Int) := by have := HT.out; omega
 have ht1 : (t : Int) ≤ (cap1 : Int) := by have := HT.out; omega
 have ht2 : (0 : Int) ≤ (t : Int) := by omega
 have ht4 : Hid (t ≤ 4) := hid (by have := HT.out; omega)
 go_wp2_with fail
 go_loopg [6, 36] t (fun g x y wr => ∃ k N : Nat, k + g = t ∧ x = .int .i64 (N : Int) ∧ y = .int .i64 (k : Int) ∧ Hid (N = num (r.take k)) ∧ Hid (W1 = wr))
 case atStart => exact ⟨0, 0, by omega, rfl, rfl, hid rfl, hid rfl⟩
 case round =>
  obtain ⟨i, N, hk, rfl, rfl, HNU, HWR⟩ := hrel
  obtain rfl := HWR.out
  have HKK := hid hk
  by_cases hkn : i < t
  ·obtain ⟨c, hc⟩ : ∃ c, r[i]? = some c := ⟨_, List.getElem?_eq_getElem (by have := HT.out; have := HM.out; omega)⟩
   obtain ⟨b', off', he', hbl, hcells⟩ := (HBR.out.below HBx1.out).cell hc
   injection he' with he'
   injection he' with hx hy
   subst hx hy
   have hcell := hcells i c hc
   have HC9 := hid hc
   have hNle : (N : Int) ≤ 4294967295 := by have := num_le (s := r) (k := i) (by have := ht4.out; omega); have := HNU.out; omega
   have hk1 : (0 : Int) ≤ (i : Int) := by omega
   have hk2 : (i : Int) < (t : Int) := by omega
   have hcl : (c.toNat : Int) < 256 := by have := c.toNat_lt; omega
   have w1 : IntKind.i64.wrap ((N : Int) * 256) = (N : Int) * 256 := IntWalk.i64_in _ (by omega)
   have w2 := or_byte N c (by omega)
   have w3 : IntKind.i64.wrap ((i : Int) + 1) = ((i + 1 : Nat) : Int) := IntWalk.i64_in _ (by have := ht4.out; omega)
   clear hc hcells hk
   go_wp2_with fail
   go_roundg (t - (i + 1))
   case measure => (have := HKK.out; omega)
   case rel => exact ⟨i + 1, N * 256 + c.toNat, by have := HKK.out; omega, by simp, by simp, hid (by rw [num_take HC9.out, HNU.out]), hid rfl⟩
  ·have hk2 : ¬ (i : Int) < (t : Int) := by omega
   have HNN : Hid ((N : Int) = numI (r.take 4)) := hid (by
    have h1 := HT.out
    have h2 := HM.out
    unfold numI
    rw [HNU.out]
    by_cases h4 : m ≤ 4
    ·rw [List.take_of_length_le (l := r) (i := 4) (by omega), List.take_of_length_le (by omega)]
    ·rw [show i = 4 by omega])
   clear hk hkn
   have h1 : KI = 1 := by have := HKI.out; have := HQ.out; omega
   go_upto_region 13 with fail
   ·subst h1
    obtain rfl : K = 1 := by have := HKI.out; omega
    have hconv := (HBR.out.below HB1.out).text HM.out cap1
    obtain ⟨R, hR⟩ : ∃ R, bts r = R := ⟨_, rfl⟩
    rw [hR] at hconv
    have HRD0 := jobRead_any r W1 (HEV.out W1 HB1.out)
    rw [if_neg (by have := HM.out; have := HL.out; omega), if_neg (by have := HM.out; have := HL.out; omega), hR] at HRD0
    have HRD := hid HRD0
    clear HRD0 hR
    have hO1 := HRJ0.out
    rw [hO1] at HRD
    have HP : Hid (O = none) := hid (by rw [← HO.out]; unfold first; rw [if_pos rfl, hO1]; rfl)
    clear hO1
    obtain ⟨j0, j1, j2, j3, j4, j5, j6, j7, j8, j9, j10, j11, j12, j13, j14⟩ := HBJ1.out.c15
    obtain ⟨jf0, jf1, jf2, jf3, jf4, jf5, jf6, jf7, jf8, jf9, jf10, jf11, jf12, jf13, jf14⟩ := HBJ1.out.f15
    have hjl := HBJ1.out.lt
    go_wp2_with fail
    refine Calls.mono HRD.out ?_
    rintro e W2 ⟨hbn, he2⟩
    unfold jobVal at he2
    obtain rfl := he2
    have HB2 : Hid (Below w.heap.size w W2) := hid (HB1.out.trans (hbn.mono HB1.out.size))
    have HBC2 := hid (HBC1.out.step hbn)
    have HBJ2 : Hid (BoxV J [.int .i64 1, .string ⟨#[]⟩, .int .i64 0, .int .i64 0, .int .i64 0, .int .i64 0, .int .i64 0, .string ⟨#[]⟩, .string ⟨#[]⟩, .int .i64 0, .slice none 0 0, .slice none 0 0, .int .i64 0, .int .i64 0, .bool false] W2) := hid (HBJ1.out.step hbn)
    clear hjl j0 jf0 j1 jf1 j2 jf2 j3 jf3 j4 jf4 j5 jf5 j6 jf6 j7 jf7 j8 jf8 j9 jf9 j10 jf10 j11 jf11 j12 jf12 j13 jf13 j14 jf14
    clear hbn
    go_upto_region 15 with fail
    obtain ⟨W3, hW3⟩ : ∃ W, W2.alloc (.cells #[.string ⟨#[]⟩, .int .i64 0, .int .i64 0, .int .i64 0, .int .i64 0, .int .i64 0, .string ⟨#[]⟩, .string ⟨#[]⟩, .int .i64 0, .slice none 0 0, .slice none 0 0] 29) = W := ⟨_, rfl⟩
    have hbn : Below W2.heap.size W2 W3 := be0 hW3.symm
    have HB3 : Hid (Below w.heap.size w W3) := hid (HB2.out.trans (hbn.mono HB2.out.size))
    have HBC3 := hid (HBC2.out.step hbn)
    have HBJ3 : Hid (BoxV J [.int .i64 1, .string ⟨#[]⟩, .int .i64 0, .int .i64 0, .int .i64 0, .int .i64 0, .int .i64 0, .string ⟨#[]⟩, .string ⟨#[]⟩, .int .i64 0, .slice none 0 0, .slice none 0 0, .int .i64 0, .int .i64 0, .bool false] W3) := hid (HBJ2.out.step hbn)
    rw [hW3]
    clear hbn hW3 hconv
    obtain ⟨r0, r1, r2, r3, r4, r5, r6, r7, r8, r9, r10, r11, r12, r13, r14⟩ := HBC3.out.c15
    obtain ⟨rf0, rf1, rf2, rf3, rf4, rf5, rf6, rf7, rf8, rf9, rf10, rf11, rf12, rf13, rf14⟩ := HBC3.out.f15
    have hcl := HBC3.out.lt
    go_wp2_with fail
    refine bodyPost_ret (v := .tuple #[.agg #[.int .i64 0, .string ⟨#[]⟩, .int .i64 0, .int .i64 0, .int .i64 0, .int .i64 0, .int .i64 0, .string ⟨#[]⟩, .string ⟨#[]⟩, .int .i64 0, .slice none 0 0, .slice none 0 0, .int .i64 0, .int .i64 0, .bool false], .int .i64 3]) (by simp [results, Tryz.results14, go_sem, cell_set, r0, r1, r2, r3, r4, r5, r6, r7, r8, r9, r10, r11, r12, r13, r14, hcl]) rfl ?_
    show DecQ w O 3 _ (puts W3 C 0 [.int .i64 0, .string ⟨#[]⟩, .int .i64 0, .int .i64 0, .int .i64 0, .int .i64 0, .int .i64 0, .string ⟨#[]⟩, .string ⟨#[]⟩, .int .i64 0, .slice none 0 0, .slice none 0 0, .int .i64 0, .int .i64 0, .bool false])
    rw [HP.out]
    exact ⟨puts_below C (Nat.le_of_eq HC.out.symm) _ _ _ HB3.out, rfl⟩
theorem decode_1y (k : UInt8) (r : Bs) (a : Option Addr) (m cap : Nat) (w : World) (hm : r.length = m) (hl : m ≤ 3000) (hcap : m + 1 ≤ cap) (hmax : cap ≤ 9223372036854775807) (he : Env w) (hs : BytA w a (k :: r)) (hq : k.toNat = 1) (j : Jb) (hO1 : rdA r = some j) : Calls Tryz.prog 14 #[.slice a (m + 1) cap] w (DecQ w (rd (k :: r)) 3) := by
 obtain ⟨C, hC⟩ : ∃ B, B = w.heap.size := ⟨_, rfl⟩
 obtain ⟨W0, hW0⟩ : ∃ W, W = w.alloc (.cells #[.int .i64 0, .string ⟨#[]⟩, .int .i64 0, .int .i64 0, .int .i64 0, .int .i64 0, .int .i64 0, .string ⟨#[]⟩, .string ⟨#[]⟩, .int .i64 0, .slice none 0 0, .slice none 0 0, .int .i64 0, .int .i64 0, .bool false] 40) := ⟨_, rfl⟩
 have HBC0 : Hid (BoxV C [.int .i64 0, .string ⟨#[]⟩, .int .i64 0, .int .i64 0, .int .i64 0, .int .i64 0, .int .i64 0, .string ⟨#[]⟩, .string ⟨#[]⟩, .int .i64 0, .slice none 0 0, .slice none 0 0, .int .i64 0, .int .i64 0, .bool false] W0) := hid (by rw [hW0]; exact BoxV.top _ hC)
 have hb0 : Below w.heap.size w W0 := be0 hW0
 have HB0 : Hid (Below w.heap.size w W0) := hid hb0
 have HC : Hid (C = w.heap.size) := hid hC
 obtain ⟨bl, off, rfl, hbl, hcells⟩ := hs.cell (i := 0) (c := k) rfl
 have hcell : W0.cell? ⟨bl, off, none⟩ = some (.int .u8 (k.toNat : Int)) := (hb0.cell (p := ⟨bl, off, none⟩) hbl).trans (hcells 0 k rfl)
 have HBY : Hid (BytA w (some ⟨bl, off, none⟩) (k :: r)) := hid hs
 obtain ⟨J, hJ⟩ : ∃ J, J = W0.heap.size := ⟨_, rfl⟩
 have hbl0 : bl < W0.heap.size := Nat.lt_of_lt_of_le hbl hb0.size
 obtain ⟨O, hO⟩ : ∃ O, rd (k :: r) = O := ⟨_, rfl⟩
 have HO : Hid (keep (first k.toNat r) (k :: r) = O) := hid ((keep_first k r).trans hO)
 rw [hO]
 obtain ⟨K, hK⟩ : ∃ K, k.toNat = K := ⟨_, rfl⟩
 have hK2 : K < 256 := by rw [← hK]; exact k.toNat_lt
 rw [hK] at hcell HO hq
 obtain ⟨KI, hKI⟩ : ∃ KI : Int, (K : Int) = KI := ⟨_, rfl⟩
 have hK0 : 0 ≤ KI := by omega
 have hK3 : KI < 256 := by omega
 rw [hKI] at hcell
 have HKI := hid hKI
 clear hKI hK2
 obtain ⟨W1, hW1⟩ : ∃ W, W = W0.alloc (.cells #[.int .i64 KI, .string ⟨#[]⟩, .int .i64 0, .int .i64 0, .int .i64 0, .int .i64 0, .int .i64 0, .string ⟨#[]⟩, .string ⟨#[]⟩, .int .i64 0, .slice none 0 0, .slice none 0 0, .int .i64 0, .int .i64 0, .bool false] 40) := ⟨_, rfl⟩
 have hb1 : Below W0.heap.size W0 W1 := be0 hW1
 have HJW : Hid (w.heap.size ≤ J ∧ J ≠ C) := hid ⟨by rw [hJ]; exact HB0.out.size, by rw [hJ]; exact Nat.ne_of_gt HBC0.out.lt⟩
 have HB1 : Hid (Below w.heap.size w W1) := hid (HB0.out.trans (hb1.mono HB0.out.size))
 have HBC1 := hid (HBC0.out.step hb1)
 have HBJ1 : Hid (BoxV J [.int .i64 KI, .string ⟨#[]⟩, .int .i64 0, .int .i64 0, .int .i64 0, .int .i64 0, .int .i64 0, .string ⟨#[]⟩, .string ⟨#[]⟩, .int .i64 0, .slice none 0 0, .slice none 0 0, .int .i64 0, .int .i64 0, .bool false] W1) := hid (by rw [hW1]; exact BoxV.top _ hJ)
 have HEV : Hid (∀ W, Below w.heap.size w W → Env W) := hid (fun W h => he.below h lr)
 have HBx1 := HB1
 have hm0 : ¬ ((m : Int) + 1 = 0) := by omega
 have hm1 : (((m : Int) + 1) == 0) = false := by simpa using hm0
 have hm3 : ¬ (3001 : Int) < (m : Int) + 1 := by omega
 have hm4 : (0 : Int) < (m : Int) + 1 := by omega
 have hm5 : (1 : Int) ≤ (m : Int) + 1 := by omega
 have hm6 : (m : Int) + 1 ≤ (cap : Int) := by omega
 have HM := hid hm
 have HQ : Hid (K = 1) := hid hq
 have HRJ0 := hid hO1
 clear hO1
 have HL := hid hl
 clear hm hl hcap hmax he hs hcells hbl hb0 hb1 hO hK hq
 go_enter Tryz.func14, Tryz.ntmps14
 go_upto_region 1 with fail
 rw [← hW0, ← hC]
 clear hW0 hC
 go_upto_region 6 with fail
 rw [← hW1, ← hJ]
 clear hW1 hJ hcell hbl0
 go_upto_region 7 with fail
 obtain ⟨q, hq⟩ : ∃ q, (if cap = 1 then some (⟨bl, off, none⟩ : Addr) else some ⟨bl, off + 1, none⟩) = some ⟨bl, q, none⟩ := by
  by_cases h : cap = 1
  ·exact ⟨off, by rw [if_pos h]⟩
  ·exact ⟨off + 1, by rw [if_neg h]⟩
 have HBR : Hid (BytA w (some ⟨bl, q, none⟩) r) := hid (by
  rw [← hq]
  by_cases h : cap = 1
  ·have hr : r = [] := List.eq_nil_of_length_eq_zero (by have := HM.out; omega)
   rw [hr]
   exact BytA.nil _ _
  ·rw [if_neg h]
   exact HBY.out.drop 1)
 rw [hq]
 obtain ⟨cap1, hcap1⟩ : ∃ c, cap - 1 = c := ⟨_, rfl⟩
 have hmc : m ≤ cap1 := by omega
 rw [hcap1]
 clear hq hcap1
 obtain ⟨t, ht⟩ : ∃ t, min 4 m = t := ⟨_, rfl⟩
 have HT : Hid (min 4 m = t) := hid ht
 clear ht
 have hmin : min (4 : Int) (m : Int) = (t : Int) := by have := HT.out; omega
 have ht1 : (t : Int) ≤ (cap1 : Int) := by have := HT.out; omega
 have ht2 : (0 : Int) ≤ (t : Int) := by omega
 have ht4 : Hid (t ≤ 4) := hid (by have := HT.out; omega)
 go_wp2_with fail
 go_loopg [6, 36] t (fun g x y wr => ∃ k N : Nat, k + g = t ∧ x = .int .i64 (N : Int) ∧ y = .int .i64 (k : Int) ∧ Hid (N = num (r.take k)) ∧ Hid (W1 = wr))
 case atStart => exact ⟨0, 0, by omega, rfl, rfl, hid rfl, hid rfl⟩
 case round =>
  obtain ⟨i, N, hk, rfl, rfl, HNU, HWR⟩ := hrel
  obtain rfl := HWR.out
  have HKK := hid hk
  by_cases hkn : i < t
  ·obtain ⟨c, hc⟩ : ∃ c, r[i]? = some c := ⟨_, List.getElem?_eq_getElem (by have := HT.out; have := HM.out; omega)⟩
   obtain ⟨b', off', he', hbl, hcells⟩ := (HBR.out.below HBx1.out).cell hc
   injection he' with he'
   injection he' with hx hy
   subst hx hy
   have hcell := hcells i c hc
   have HC9 := hid hc
   have hNle : (N : Int) ≤ 4294967295 := by have := num_le (s := r) (k := i) (by have := ht4.out; omega); have := HNU.out; omega
   have hk1 : (0 : Int) ≤ (i : Int) := by omega
   have hk2 : (i : Int) < (t : Int) := by omega
   have hcl : (c.toNat : Int) < 256 := by have := c.toNat_lt; omega
   have w1 : IntKind.i64.wrap ((N : Int) * 256) = (N : Int) * 256 := IntWalk.i64_in _ (by omega)
   have w2 := or_byte N c (by omega)
   have w3 : IntKind.i64.wrap ((i : Int) + 1) = ((i + 1 : Nat) : Int) := IntWalk.i64_in _ (by have := ht4.out; omega)
   clear hc hcells hk
   go_wp2_with fail
   go_roundg (t - (i + 1))
   case measure => (have := HKK.out; omega)
   case rel => exact ⟨i + 1, N * 256 + c.toNat, by have := HKK.out; omega, by simp, by simp, hid (by rw [num_take HC9.out, HNU.out]), hid rfl⟩
  ·have hk2 : ¬ (i : Int) < (t : Int) := by omega
   have HNN : Hid ((N : Int) = numI (r.take 4)) := hid (by
    have h1 := HT.out
    have h2 := HM.out
    unfold numI
    rw [HNU.out]
    by_cases h4 : m ≤ 4
    ·rw [List.take_of_length_le (l := r) (i := 4) (by omega), List.take_of_length_le (by omega)]
    ·rw [show i = 4 by omega])
   clear hk hkn
   have h1 : KI = 1 := by have := HKI.out; have := HQ.out; omega
   go_upto_region 13 with fail
   ·subst h1
    obtain rfl : K = 1 := by have := HKI.out; omega
    have hconv := (HBR.out.below HB1.out).text HM.out cap1
    obtain ⟨R, hR⟩ : ∃ R, bts r = R := ⟨_, rfl⟩
    rw [hR] at hconv
    have HRD0 := jobRead_any r W1 (HEV.out W1 HB1.out)
    rw [if_neg (by have := HM.out; have := HL.out; omega), if_neg (by have := HM.out; have := HL.out; omega), hR] at HRD0
    have HRD := hid HRD0
    clear HRD0 hR
    have hO1 := HRJ0.out
    rw [hO1] at HRD
    have HFI : Hid (first 1 r = some ⟨1, j, 0, 0, false⟩) := hid (by unfold first; rw [if_pos rfl, hO1])
    clear hO1
    obtain ⟨j0, j1, j2, j3, j4, j5, j6, j7, j8, j9, j10, j11, j12, j13, j14⟩ := HBJ1.out.c15
    obtain ⟨jf0, jf1, jf2, jf3, jf4, jf5, jf6, jf7, jf8, jf9, jf10, jf11, jf12, jf13, jf14⟩ := HBJ1.out.f15
    have hjl := HBJ1.out.lt
    go_wp2_with fail
    refine Calls.mono HRD.out ?_
    rintro e W2 ⟨hbn, v, rfl, hjn⟩
    obtain ⟨x0, x1, x2, x3, xd, xl, xc, aa, ac, hv, -⟩ := id hjn
    subst hv
    have HJN2 := hid hjn
    clear hjn
    unfold jobVal
    have HB2 : Hid (Below w.heap.size w W2) := hid (HB1.out.trans (hbn.mono HB1.out.size))
    have HBC2 := hid (HBC1.out.step hbn)
    have HBJ2 : Hid (BoxV J [.int .i64 1, .string ⟨#[]⟩, .int .i64 0, .int .i64 0, .int .i64 0, .int .i64 0, .int .i64 0, .string ⟨#[]⟩, .string ⟨#[]⟩, .int .i64 0, .slice none 0 0, .slice none 0 0, .int .i64 0, .int .i64 0, .bool false] W2) := hid (HBJ1.out.step hbn)
    clear hjl j0 jf0 j1 jf1 j2 jf2 j3 jf3 j4 jf4 j5 jf5 j6 jf6 j7 jf7 j8 jf8 j9 jf9 j10 jf10 j11 jf11 j12 jf12 j13 jf13 j14 jf14
    clear hbn
    obtain ⟨U, hU⟩ : ∃ U, bts j.user = U := ⟨_, rfl⟩
    obtain ⟨P, hP⟩ : ∃ U, j.prio = U := ⟨_, rfl⟩
    obtain ⟨na, hna⟩ : ∃ U, j.a = U := ⟨_, rfl⟩
    obtain ⟨nb, hnb⟩ : ∃ U, j.b = U := ⟨_, rfl⟩
    obtain ⟨nc, hnc⟩ : ∃ U, j.c = U := ⟨_, rfl⟩
    obtain ⟨n, hn⟩ : ∃ U, j.after.length = U := ⟨_, rfl⟩
    rw [hU, hP, hna, hnb, hnc, hn] at HJN2 ⊢
    clear hU hP hna hnb hnc hn
    obtain ⟨W3, hW3⟩ : ∃ W, W2.alloc (.cells #[.string U, .int .i64 P, .int .i64 na, .int .i64 nb, .int .i64 nc, .int .i64 x0, .string x1, .string x2, .int .i64 x3, .slice xd xl xc, .slice aa n ac] 29) = W := ⟨_, rfl⟩
    have hbn : Below W2.heap.size W2 W3 := be0 hW3.symm
    obtain ⟨G, hG⟩ : ∃ G, G = W2.heap.size := ⟨_, rfl⟩
    have HBG3 : Hid (BoxV G [.string U, .int .i64 P, .int .i64 na, .int .i64 nb, .int .i64 nc, .int .i64 x0, .string x1, .string x2, .int .i64 x3, .slice xd xl xc, .slice aa n ac] W3) := hid (by rw [← hW3]; exact BoxV.top _ hG)
    have HJN3 := hid (HJN2.out.keep hbn.size (fun b _ hb => hbn.block b hb))
    have HJG : Hid (J < W1.heap.size) := hid HBJ1.out.lt
    have HB3 : Hid (Below w.heap.size w W3) := hid (HB2.out.trans (hbn.mono HB2.out.size))
    have HBC3 := hid (HBC2.out.step hbn)
    have HBJ3 : Hid (BoxV J [.int .i64 1, .string ⟨#[]⟩, .int .i64 0, .int .i64 0, .int .i64 0, .int .i64 0, .int .i64 0, .string ⟨#[]⟩, .string ⟨#[]⟩, .int .i64 0, .slice none 0 0, .slice none 0 0, .int .i64 0, .int .i64 0, .bool false] W3) := hid (HBJ2.out.step hbn)
    clear hbn
    go_upto_region 15 with fail
    rw [← hG]
    clear hW3 hG hconv
    obtain ⟨W4, hW4⟩ : ∃ W, (((((((((((W3.setCell ⟨J, 1, none⟩ (.string U)).setCell ⟨J, 2, none⟩ (.int .i64 P)).setCell ⟨J, 3, none⟩ (.int .i64 na)).setCell ⟨J, 4, none⟩ (.int .i64 nb)).setCell ⟨J, 5, none⟩ (.int .i64 nc)).setCell ⟨J, 6, none⟩ (.int .i64 x0)).setCell ⟨J, 7, none⟩ (.string x1)).setCell ⟨J, 8, none⟩ (.string x2)).setCell ⟨J, 9, none⟩ (.int .i64 x3)).setCell ⟨J, 10, none⟩ (.slice xd xl xc)).setCell ⟨J, 11, none⟩ (.slice aa n ac)) = W := ⟨_, rfl⟩
    have HB4 : Hid (Below w.heap.size w W4) := hid (by rw [← hW4]; exact (((((((((((HB3.out).setCell (p := ⟨J, 1, none⟩) HJW.out.1 _).setCell (p := ⟨J, 2, none⟩) HJW.out.1 _).setCell (p := ⟨J, 3, none⟩) HJW.out.1 _).setCell (p := ⟨J, 4, none⟩) HJW.out.1 _).setCell (p := ⟨J, 5, none⟩) HJW.out.1 _).setCell (p := ⟨J, 6, none⟩) HJW.out.1 _).setCell (p := ⟨J, 7, none⟩) HJW.out.1 _).setCell (p := ⟨J, 8, none⟩) HJW.out.1 _).setCell (p := ⟨J, 9, none⟩) HJW.out.1 _).setCell (p := ⟨J, 10, none⟩) HJW.out.1 _).setCell (p := ⟨J, 11, none⟩) HJW.out.1 _)
    have HBC4 : Hid (BoxV C [.int .i64 0, .string ⟨#[]⟩, .int .i64 0, .int .i64 0, .int .i64 0, .int .i64 0, .int .i64 0, .string ⟨#[]⟩, .string ⟨#[]⟩, .int .i64 0, .slice none 0 0, .slice none 0 0, .int .i64 0, .int .i64 0, .bool false] W4) := hid (by rw [← hW4]; exact (((((((((((HBC3.out).other (a := ⟨J, 1, none⟩) HJW.out.2 _).other (a := ⟨J, 2, none⟩) HJW.out.2 _).other (a := ⟨J, 3, none⟩) HJW.out.2 _).other (a := ⟨J, 4, none⟩) HJW.out.2 _).other (a := ⟨J, 5, none⟩) HJW.out.2 _).other (a := ⟨J, 6, none⟩) HJW.out.2 _).other (a := ⟨J, 7, none⟩) HJW.out.2 _).other (a := ⟨J, 8, none⟩) HJW.out.2 _).other (a := ⟨J, 9, none⟩) HJW.out.2 _).other (a := ⟨J, 10, none⟩) HJW.out.2 _).other (a := ⟨J, 11, none⟩) HJW.out.2 _)
    have HBJ4 : Hid (BoxV J [.int .i64 1, .string U, .int .i64 P, .int .i64 na, .int .i64 nb, .int .i64 nc, .int .i64 x0, .string x1, .string x2, .int .i64 x3, .slice xd xl xc, .slice aa n ac, .int .i64 0, .int .i64 0, .bool false] W4) := hid (by rw [← hW4]; exact (((((((((((HBJ3.out).set 1 _).set 2 _).set 3 _).set 4 _).set 5 _).set 6 _).set 7 _).set 8 _).set 9 _).set 10 _).set 11 _)
    obtain ⟨j0, j1, j2, j3, j4, j5, j6, j7, j8, j9, j10, j11, j12, j13, j14⟩ := HBJ3.out.c15
    obtain ⟨jf0, jf1, jf2, jf3, jf4, jf5, jf6, jf7, jf8, jf9, jf10, jf11, jf12, jf13, jf14⟩ := HBJ3.out.f15
    have hjl := HBJ3.out.lt
    obtain ⟨g0, g1, g2, g3, g4, g5, g6, g7, g8, g9, g10⟩ := HBG3.out.c11
    have hgl := HBG3.out.lt
    have HJN : Hid (JobN W1.heap.size W4 j (jobVal U P na nb nc x0 x1 x2 x3 xd xl xc aa n ac)) := hid (HJN3.out.keep (by rw [← hW4]; simp) (fun b hb _ => by rw [← hW4]; exact puts_heap J (Nat.ne_of_gt (Nat.lt_of_lt_of_le HJG.out hb)) [.string U, .int .i64 P, .int .i64 na, .int .i64 nb, .int .i64 nc, .int .i64 x0, .string x1, .string x2, .int .i64 x3, .slice xd xl xc, .slice aa n ac] W3 1))
    have HCQ : Hid (C < W1.heap.size) := hid HBC1.out.lt
    go_upto_region 24 with fail
    clear hW4 hgl g0 g1 g2 g3 g4 g5 g6 g7 g8 g9 g10
    clear hjl j0 jf0 j1 jf1 j2 jf2 j3 jf3 j4 jf4 j5 jf5 j6 jf6 j7 jf7 j8 jf8 j9 jf9 j10 jf10 j11 jf11 j12 jf12 j13 jf13 j14 jf14
    have HEN : Hid (Calls Tryz.prog 13 #[.agg #[.int .i64 1, .string U, .int .i64 P, .int .i64 na, .int .i64 nb, .int .i64 nc, .int .i64 x0, .string x1, .string x2, .int .i64 x3, .slice xd xl xc, .slice aa n ac, .int .i64 0, .int .i64 0, .bool false]] W4 (EncQ W4 (⟨1, j, 0, 0, false⟩ : Evt).enc (⟨1, j, 0, 0, false⟩ : Evt).fault)) := hid (encode_any ⟨1, j, 0, 0, false⟩ _ W4 (first_size HFI.out) (HEV.out W4 HB4.out) (EvV.ofJob (y := ⟨1, j, 0, 0, false⟩) HJN.out))
    obtain ⟨E, hE⟩ : ∃ E, (⟨1, j, 0, 0, false⟩ : Evt).enc = E := ⟨_, rfl⟩
    obtain ⟨f, hf⟩ : ∃ f, (⟨1, j, 0, 0, false⟩ : Evt).fault = f := ⟨_, rfl⟩
    rw [hE, hf] at HEN
    have HOO : Hid (O = if f = 0 ∧ E = k :: r then some (⟨1, j, 0, 0, false⟩) else none) := hid (by rw [← HO.out, HFI.out, ← hf, ← hE]; exact keep_enc _ _)
    clear hE hf
    obtain ⟨j0, j1, j2, j3, j4, j5, j6, j7, j8, j9, j10, j11, j12, j13, j14⟩ := HBJ4.out.c15
    obtain ⟨jf0, jf1, jf2, jf3, jf4, jf5, jf6, jf7, jf8, jf9, jf10, jf11, jf12, jf13, jf14⟩ := HBJ4.out.f15
    have hjl := HBJ4.out.lt
    go_wp2_with fail
    refine Calls.mono HEN.out ?_
    rintro e W5 ⟨v5, rfl, hown, hbn⟩
    obtain ⟨a5, c5, rfl, -, -, hby, -⟩ := hown.form
    have HB5 : Hid (Below w.heap.size w W5) := hid (HB4.out.trans (hbn.mono HB4.out.size))
    have HBC5 := hid (HBC4.out.step hbn)
    have HBJ5 : Hid (BoxV J [.int .i64 1, .string U, .int .i64 P, .int .i64 na, .int .i64 nb, .int .i64 nc, .int .i64 x0, .string x1, .string x2, .int .i64 x3, .slice xd xl xc, .slice aa n ac, .int .i64 0, .int .i64 0, .bool false] W5) := hid (HBJ4.out.step hbn)
    have HJN5 := hid (HJN.out.keep hbn.size (fun b _ hb => hbn.block b hb))
    have HEQ := hid (eqB_any hby (HBY.out.below HB5.out) rfl (show (k :: r).length = m + 1 by simp [HM.out]) c5 cap)
    obtain ⟨en, hen⟩ : ∃ n, E.length = n := ⟨_, rfl⟩
    obtain ⟨qq, hqq⟩ : ∃ b, decide (E = k :: r) = b := ⟨_, rfl⟩
    rw [hen, hqq] at HEQ
    rw [hen]
    have HQQ := hid hqq
    clear hbn hown hby hen hqq
    clear hjl j0 jf0 j1 jf1 j2 jf2 j3 jf3 j4 jf4 j5 jf5 j6 jf6 j7 jf7 j8 jf8 j9 jf9 j10 jf10 j11 jf11 j12 jf12 j13 jf13 j14 jf14
    obtain ⟨j0, j1, j2, j3, j4, j5, j6, j7, j8, j9, j10, j11, j12, j13, j14⟩ := HBJ5.out.c15
    obtain ⟨jf0, jf1, jf2, jf3, jf4, jf5, jf6, jf7, jf8, jf9, jf10, jf11, jf12, jf13, jf14⟩ := HBJ5.out.f15
    have hjl := HBJ5.out.lt
    by_cases h0 : f = 0
    ·subst h0
     go_wp2_with fail
     refine Calls.mono HEQ.out ?_
     rintro e w6 ⟨rfl, hw6⟩
     subst hw6
     cases qq with
     | false =>
      have HP : Hid (O = none) := hid (by rw [HOO.out]; exact if_neg (fun h => of_decide_eq_false HQQ.out h.2))
      go_upto_region 26 with fail
      have HKX := KR.of (P := Tryz.prog) (by assumption)
      go_light
      obtain ⟨r0, r1, r2, r3, r4, r5, r6, r7, r8, r9, r10, r11, r12, r13, r14⟩ := HBC5.out.c15
      obtain ⟨rf0, rf1, rf2, rf3, rf4, rf5, rf6, rf7, rf8, rf9, rf10, rf11, rf12, rf13, rf14⟩ := HBC5.out.f15
      have hcl := HBC5.out.lt
      go_wp2_with fail
      refine HKX.fin ?_
      refine bodyPost_ret (v := .tuple #[.agg #[.int .i64 0, .string ⟨#[]⟩, .int .i64 0, .int .i64 0, .int .i64 0, .int .i64 0, .int .i64 0, .string ⟨#[]⟩, .string ⟨#[]⟩, .int .i64 0, .slice none 0 0, .slice none 0 0, .int .i64 0, .int .i64 0, .bool false], .int .i64 3]) (by simp [results, Tryz.results14, go_sem, cell_set, r0, r1, r2, r3, r4, r5, r6, r7, r8, r9, r10, r11, r12, r13, r14, hcl]) rfl ?_
      show DecQ w O 3 _ (puts w6 C 0 [.int .i64 0, .string ⟨#[]⟩, .int .i64 0, .int .i64 0, .int .i64 0, .int .i64 0, .int .i64 0, .string ⟨#[]⟩, .string ⟨#[]⟩, .int .i64 0, .slice none 0 0, .slice none 0 0, .int .i64 0, .int .i64 0, .bool false])
      rw [HP.out]
      exact ⟨puts_below C (Nat.le_of_eq HC.out.symm) _ _ _ HB5.out, rfl⟩
     | true =>
      have HP : Hid (O = some (⟨1, j, 0, 0, false⟩)) := hid (by rw [HOO.out]; exact if_pos ⟨by trivial, of_decide_eq_true HQQ.out⟩)
      go_upto_region 27 with fail
      have HKX := KR.of (P := Tryz.prog) (by assumption)
      go_light
      clear hjl j0 jf0 j1 jf1 j2 jf2 j3 jf3 j4 jf4 j5 jf5 j6 jf6 j7 jf7 j8 jf8 j9 jf9 j10 jf10 j11 jf11 j12 jf12 j13 jf13 j14 jf14
      obtain ⟨r0, r1, r2, r3, r4, r5, r6, r7, r8, r9, r10, r11, r12, r13, r14⟩ := HBC5.out.c15
      obtain ⟨rf0, rf1, rf2, rf3, rf4, rf5, rf6, rf7, rf8, rf9, rf10, rf11, rf12, rf13, rf14⟩ := HBC5.out.f15
      have hcl := HBC5.out.lt
      obtain ⟨e0, e1, e2, e3, e4, e5, e6, e7, e8, e9, e10, e11, e12, e13, e14⟩ := HBJ5.out.c15
      have hjl := HBJ5.out.lt
      go_wp2_with fail
      refine HKX.fin ?_
      refine bodyPost_ret (v := .tuple #[.agg #[.int .i64 1, .string U, .int .i64 P, .int .i64 na, .int .i64 nb, .int .i64 nc, .int .i64 x0, .string x1, .string x2, .int .i64 x3, .slice xd xl xc, .slice aa n ac, .int .i64 0, .int .i64 0, .bool false], .int .i64 0]) (by simp [results, Tryz.results14, go_sem, cell_set, r0, r1, r2, r3, r4, r5, r6, r7, r8, r9, r10, r11, r12, r13, r14, hcl]) rfl ?_
      show DecQ w O 3 _ (puts w6 C 0 [.int .i64 1, .string U, .int .i64 P, .int .i64 na, .int .i64 nb, .int .i64 nc, .int .i64 x0, .string x1, .string x2, .int .i64 x3, .slice xd xl xc, .slice aa n ac, .int .i64 0, .int .i64 0, .bool false])
      rw [HP.out]
      exact ⟨puts_below C (Nat.le_of_eq HC.out.symm) _ _ _ HB5.out, _, rfl, EvN.ofJob (JobN.low (JobN.keep HJN5.out (Nat.le_of_eq (puts_size _ _ _ _).symm) (fun b hb _ => puts_heap C (Nat.ne_of_gt (Nat.lt_of_lt_of_le HCQ.out hb)) _ _ _)) (by rw [← HC.out]; exact Nat.le_of_lt HCQ.out))⟩
    ·have hz : (f == 0) = false := by simpa using h0
     have hz2 : (f != 0) = true := by simpa using h0
     have HP : Hid (O = none) := hid (by rw [HOO.out]; exact if_neg (fun h => h0 h.1))
     clear h0
     go_upto_region 26 with fail
     have HKX := KR.of (P := Tryz.prog) (by assumption)
     go_light
     obtain ⟨r0, r1, r2, r3, r4, r5, r6, r7, r8, r9, r10, r11, r12, r13, r14⟩ := HBC5.out.c15
     obtain ⟨rf0, rf1, rf2, rf3, rf4, rf5, rf6, rf7, rf8, rf9, rf10, rf11, rf12, rf13, rf14⟩ := HBC5.out.f15
     have hcl := HBC5.out.lt
     go_wp2_with fail
     refine HKX.fin ?_
     refine bodyPost_ret (v := .tuple #[.agg #[.int .i64 0, .string ⟨#[]⟩, .int .i64 0, .int .i64 0, .int .i64 0, .int .i64 0, .int .i64 0, .string ⟨#[]⟩, .string ⟨#[]⟩, .int .i64 0, .slice none 0 0, .slice none 0 0, .int .i64 0, .int .i64 0, .bool false], .int .i64 3]) (by simp [results, Tryz.results14, go_sem, cell_set, r0, r1, r2, r3, r4, r5, r6, r7, r8, r9, r10, r11, r12, r13, r14, hcl]) rfl ?_
     show DecQ w O 3 _ (puts W5 C 0 [.int .i64 0, .string ⟨#[]⟩, .int .i64 0, .int .i64 0, .int .i64 0, .int .i64 0, .int .i64 0, .string ⟨#[]⟩, .string ⟨#[]⟩, .int .i64 0, .slice none 0 0, .slice none 0 0, .int .i64 0, .int .i64 0, .bool false])
     rw [HP.out]
     exact ⟨puts_below C (Nat.le_of_eq HC.out.symm) _ _ _ HB5.out, rfl⟩
end Go.Proofs.YtkemlckmfgacdaaGreatDoor
