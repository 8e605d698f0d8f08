/- Contract: SameJob where both are one job. -/
import Derived.Test.YtkemlckmfgacdaaGreatDoorJnP33
import Derived.Test.YtkemlckmfgacdaaGreatDoorJnP6
import Derived.Deep.LoopGhost
import Derived.Test.YtkemlckmfgacdaaGreatDoorJnP11
namespace Go.Proofs.YtkemlckmfgacdaaGreatDoor
set_option maxRecDepth 20000
set_option maxHeartbeats 64000000
open Go.ChangeShapes Go.WideShapes Go.ChangeAt Go.RowKit
set_option linter.unusedVariables false
set_option linter.unusedSimpArgs false
open Tp Jm
theorem sameInts_same (l : List Int) (a1 a2 : Option Addr) (n c1 c2 : Nat) (w : World) (hn : l.length = n) (hm : n ≤ 9223372036854775807) (hA : Vals w a1 (ints l)) (hB : Vals w a2 (ints l)) : Calls Tryz.prog 49 #[.slice a1 n c1, .slice a2 n c2] w fun e w' => e = .returned (.bool true) ∧ Below w.heap.size w w' := by
 have HA := hid hA
 have HB := hid hB
 have HN := hid hn
 have hnn : ((n : Int) != (n : Int)) = false := by simp
 clear hA hB hn
 go_enter Tryz.func49, Tryz.ntmps49
 go_wp2_with fail
 go_loopg [13] n (fun g x wr => ∃ k : Nat, k + g = n ∧ x = .int .i64 (k : Int) ∧ Hid (Below w.heap.size w wr))
 case atStart => exact ⟨0, by omega, rfl, hid (Below.refl _ _)⟩
 case round =>
  obtain ⟨k, hk, rfl, HW⟩ := hrel
  have HK := hid hk
  by_cases hkn : k < n
  ·obtain ⟨m, hm1⟩ : ∃ m, l[k]? = some m := ⟨_, List.getElem?_eq_getElem (by rw [HN.out]; exact hkn)⟩
   obtain ⟨b1, o1, rfl, hbl1, hc1⟩ := aft_cell (HA.out.below HW.out lr) hm1
   obtain ⟨b2, o2, rfl, hbl2, hc2⟩ := aft_cell (HB.out.below HW.out lr) hm1
   have d1 := hc1 k m hm1
   have d2 := hc2 k m hm1
   have hk1 : (0 : Int) ≤ (k : Int) := by omega
   have hk2 : (k : Int) < (n : Int) := by omega
   have hmm : (m != m) = false := by simp
   clear hm1 hc1 hc2 hk
   go_upto_region 6 with fail
   go_quiet (fail)
   have HW2 : Hid (∀ q, Below w.heap.size w (wr.drewN q)) := hid (fun q => below_drewN HW.out q)
   go_wp2_with fail
   go_roundg (n - (k + 1))
   case measure => (have := HK.out; omega)
   case rel => exact ⟨k + 1, by have := HK.out; omega, by simp, hid (HW2.out _)⟩
  ·have hk2 : ¬ (k : Int) < (n : Int) := by omega
   clear hk hkn
   go_wp2_with fail
   go_ret
   exact ⟨rfl, HW.out⟩
theorem sameJob_same (j : Jb) (v v' : Value) (w : World) (hv : JobV w j v) (hv' : JobV w j v') : Calls Tryz.prog 12 #[v, v'] w fun e w' => e = .returned (.bool true) ∧ Below w.heap.size w w' := by
 obtain ⟨x0, x1, x2, x3, xd, xl, xc, aa, ac, rfl, hp⟩ := hv
 obtain ⟨z0, z1, z2, z3, zd, zl, zc, za, zc2, rfl, hp'⟩ := hv'
 unfold jobVal
 obtain ⟨u, P, a, b, c, x, l⟩ := j
 simp only at hp hp' ⊢
 obtain ⟨U, hU⟩ : ∃ U, bts u = U := ⟨_, rfl⟩
 obtain ⟨n, hn⟩ : ∃ n, l.length = n := ⟨_, rfl⟩
 rw [hU, hn]
 obtain ⟨B, hB⟩ : ∃ B, B = w.heap.size := ⟨_, rfl⟩
 obtain ⟨W1, hW1⟩ : ∃ W, W = w.alloc (.cells #[.string U, .int .i64 P, .int .i64 a, .int .i64 b, .int .i64 c, .int .i64 x0, .string x1, .string x2, .int .i64 x3, .slice xd xl xc, .slice aa n ac] 29) := ⟨_, rfl⟩
 obtain ⟨B2, hB2⟩ : ∃ B, B = W1.heap.size := ⟨_, rfl⟩
 obtain ⟨W0, hW0⟩ : ∃ W, W = W1.alloc (.cells #[.string U, .int .i64 P, .int .i64 a, .int .i64 b, .int .i64 c, .int .i64 z0, .string z1, .string z2, .int .i64 z3, .slice zd zl zc, .slice za n zc2] 29) := ⟨_, rfl⟩
 have hb1 : Below w.heap.size w W1 := be0 hW1
 have hb2 : Below W1.heap.size W1 W0 := be0 hW0
 have HB0 := hid (hb1.trans (hb2.mono hb1.size))
 have HX1 : Hid (BoxV B [.string U, .int .i64 P, .int .i64 a, .int .i64 b, .int .i64 c, .int .i64 x0, .string x1, .string x2, .int .i64 x3, .slice xd xl xc, .slice aa n ac] W0) := hid ((by rw [hW1]; exact BoxV.top _ hB : BoxV B [.string U, .int .i64 P, .int .i64 a, .int .i64 b, .int .i64 c, .int .i64 x0, .string x1, .string x2, .int .i64 x3, .slice xd xl xc, .slice aa n ac] W1).step hb2)
 have HX2 : Hid (BoxV B2 [.string U, .int .i64 P, .int .i64 a, .int .i64 b, .int .i64 c, .int .i64 z0, .string z1, .string z2, .int .i64 z3, .slice zd zl zc, .slice za n zc2] W0) := hid (by rw [hW0]; exact BoxV.top _ hB2)
 have HSA : Hid (∀ W, Below w.heap.size w W → Calls Tryz.prog 48 #[.agg #[.int .i64 x0, .string x1, .string x2, .int .i64 x3, .slice xd xl xc], .agg #[.int .i64 z0, .string z1, .string z2, .int .i64 z3, .slice zd zl zc]] W fun e w' => e = .returned (.bool true) ∧ Below W.heap.size W w') := hid (fun W h => same_any x _ _ W (AskV.below h _ _ hp.ask) (AskV.below h _ _ hp'.ask))
 have HSI : Hid (∀ W, Below w.heap.size w W → Calls Tryz.prog 49 #[.slice aa n ac, .slice za n zc2] W fun e w' => e = .returned (.bool true) ∧ Below W.heap.size W w') := hid (fun W h => sameInts_same l aa za n ac zc2 W hn (by have := hp.len; have := hp.cap; simp only at *; omega) (hp.aft.below h lr) (hp'.aft.below h lr))
 have hsU : (U.toList == U.toList) = true := by simp
 have hB2' : B2 = B + 1 := by rw [hB2, hW1, hB]; simp
 clear hb1 hb2 hp hp' hU hn
 go_enter Tryz.func12, Tryz.ntmps12
 go_upto_region 1 with fail
 rw [← hB, ← hW1, ← hW0, ← hB2']
 clear hW0 hW1 hB hB2 hB2'
 obtain ⟨c0, c1, c2, c3, c4, c5, c6, c7, c8, c9, c10⟩ := HX1.out.c11
 obtain ⟨e0, e1, e2, e3, e4, e5, e6, e7, e8, e9, e10⟩ := HX2.out.c11
 have hl1 := HX1.out.lt
 have hl2 := HX2.out.lt
 go_wp2_with fail
 refine Calls.mono (HSA.out W0 HB0.out) ?_
 rintro e W2 ⟨rfl, hbn⟩
 have HB2 := hid (HB0.out.trans (hbn.mono HB0.out.size))
 have qq := below11 hbn hl1 c0 c1 c2 c3 c4 c5 c6 c7 c8 c9 c10
 clear c0 c1 c2 c3 c4 c5 c6 c7 c8 c9 c10
 obtain ⟨c0, c1, c2, c3, c4, c5, c6, c7, c8, c9, c10⟩ := qq
 have qq := below11 hbn hl2 e0 e1 e2 e3 e4 e5 e6 e7 e8 e9 e10
 clear e0 e1 e2 e3 e4 e5 e6 e7 e8 e9 e10
 obtain ⟨e0, e1, e2, e3, e4, e5, e6, e7, e8, e9, e10⟩ := qq
 replace hl1 := Nat.lt_of_lt_of_le hl1 hbn.size
 replace hl2 := Nat.lt_of_lt_of_le hl2 hbn.size
 clear hbn
 go_wp2_with fail
 refine Calls.mono (HSI.out W2 HB2.out) ?_
 rintro e W3 ⟨rfl, hbn⟩
 have HB3 := hid (HB2.out.trans (hbn.mono HB2.out.size))
 clear hbn
 go_wp2_with fail
 go_ret
 exact ⟨rfl, HB3.out⟩
end Go.Proofs.YtkemlckmfgacdaaGreatDoor
namespace Go.Proofs.YtkemlckmfgacdaaGreatDoor
set_option maxRecDepth 20000
set_option maxHeartbeats 64000000
open Go.ChangeShapes Go.WideShapes Go.ChangeAt Go.RowKit
set_option linter.unusedVariables false
set_option linter.unusedSimpArgs false
open Tp Jm Ev
theorem sameAsk_zero (x0 : Int) (q1 q2 : Bs) (x3 : Int) (xd : Option Addr) (m xc : Nat) (w : World) : Calls Tryz.prog 48 #[.agg #[.int .i64 x0, .string (bts q1), .string (bts q2), .int .i64 x3, .slice xd m xc], .agg #[.int .i64 0, .string ⟨#[]⟩, .string ⟨#[]⟩, .int .i64 0, .slice none 0 0]] w fun e w' => e = .returned (.bool (decide (x0 = 0) && q1.isEmpty && q2.isEmpty && decide (x3 = 0) && decide (m = 0))) ∧ Below w.heap.size w w' := by
 obtain ⟨K, hK⟩ : ∃ U, bts q1 = U := ⟨_, rfl⟩
 obtain ⟨Z, hZ⟩ : ∃ U, bts q2 = U := ⟨_, rfl⟩
 obtain ⟨R, hR⟩ : ∃ R, (decide (x0 = 0) && q1.isEmpty && q2.isEmpty && decide (x3 = 0) && decide (m = 0)) = R := ⟨_, rfl⟩
 rw [hR, hK, hZ]
 have H5 : q1.isEmpty = decide (K.toList = []) := by rw [← hK, bts_toList]; cases q1 <;> rfl
 have H6 : q2.isEmpty = decide (Z.toList = []) := by rw [← hZ, bts_toList]; cases q2 <;> rfl
 have HE : Hid (R = (decide (x0 = 0) && decide (K.toList = []) && decide (Z.toList = []) && decide (x3 = 0) && decide (m = 0))) := hid (by rw [← hR, H5, H6])
 clear hK hZ hR H5 H6
 obtain ⟨B, hB⟩ : ∃ B, B = w.heap.size := ⟨_, rfl⟩
 obtain ⟨W1, hW1⟩ : ∃ W, W = w.alloc (.cells #[.int .i64 x0, .string K, .string Z, .int .i64 x3, .slice xd m xc] 26) := ⟨_, rfl⟩
 have hbW1 : Below w.heap.size w W1 := be0 hW1
 have HX : Hid (BoxV B [.int .i64 x0, .string K, .string Z, .int .i64 x3, .slice xd m xc] W1) := hid (by rw [hW1]; exact BoxV.top _ hB)
 obtain ⟨C, hC⟩ : ∃ B, B = W1.heap.size := ⟨_, rfl⟩
 obtain ⟨W0, hW0⟩ : ∃ W, W = W1.alloc (.cells #[.int .i64 0, .string ⟨#[]⟩, .string ⟨#[]⟩, .int .i64 0, .slice none 0 0] 26) := ⟨_, rfl⟩
 have hbW0 : Below W1.heap.size W1 W0 := be0 hW0
 have HY : Hid (BoxV C [.int .i64 0, .string ⟨#[]⟩, .string ⟨#[]⟩, .int .i64 0, .slice none 0 0] W0) := hid (by rw [hW0]; exact BoxV.top _ hC)
 replace HX := hid (HX.out.step hbW0)
 have HB0 : Hid (Below w.heap.size w W0) := hid (hbW1.trans (hbW0.mono hbW1.size))
 have hC' : C = B + 1 := by rw [hC, hW1, hB]; simp
 clear hbW0 hbW1
 go_enter Tryz.func48, Tryz.ntmps48
 go_upto_region 1 with fail
 rw [← hB, ← hW1, ← hW0, ← hC']
 clear hW0 hW1 hB hC hC'
 obtain ⟨b0, b1, b2, b3, b4⟩ := HX.out.c5
 obtain ⟨d0, d1, d2, d3, d4⟩ := HY.out.c5
 have hBl := HX.out.lt
 have hCl := HY.out.lt
 by_cases h0 : x0 = 0
 ·subst h0
  by_cases h1 : K.toList = []
  ·by_cases h2 : Z.toList = []
   ·by_cases h3 : x3 = 0
    ·subst h3
     by_cases h4 : m = 0
     ·subst h4
      obtain rfl : R = true := by rw [HE.out]; simp [*]
      go_wp2_with (go_rounds 1)
      go_ret
      exact ⟨rfl, HB0.out⟩
     ·have g4 : ((m : Int) != 0) = true := by simp; omega
      obtain rfl : R = false := by rw [HE.out]; simp [*]
      go_wp2_with fail
      go_ret
      exact ⟨rfl, HB0.out⟩
    ·have g3 : ((x3) != 0) = true := by simp; omega
     obtain rfl : R = false := by rw [HE.out]; simp [*]
     go_wp2_with fail
     go_ret
     exact ⟨rfl, HB0.out⟩
   ·obtain rfl : R = false := by rw [HE.out]; simp [*]
    go_wp2_with fail
    go_ret
    exact ⟨rfl, HB0.out⟩
  ·obtain rfl : R = false := by rw [HE.out]; simp [*]
   go_wp2_with fail
   go_ret
   exact ⟨rfl, HB0.out⟩
 ·have g0 : ((x0) != 0) = true := by simp; omega
  obtain rfl : R = false := by rw [HE.out]; simp [*]
  go_wp2_with fail
  go_ret
  exact ⟨rfl, HB0.out⟩
theorem sameInts_nil (a : Option Addr) (n c : Nat) (w : World) : Calls Tryz.prog 49 #[.slice a n c, .slice none 0 0] w fun e w' => e = .returned (.bool (decide (n = 0))) ∧ Below w.heap.size w w' := by
 go_enter Tryz.func49, Tryz.ntmps49
 by_cases h : n = 0
 ·subst h
  go_wp2_with (go_rounds 1)
  go_ret
  exact ⟨rfl, Below.refl _ _⟩
 ·have g : ((n : Int) != 0) = true := by simp; omega
  go_wp2_with fail
  go_ret
  exact ⟨by simp [h], Below.refl _ _⟩
theorem sameJob_bare (j : Jb) (v : Value) (w : World) (hv : JobV w j v) : Calls Tryz.prog 12 #[v, jobVal ⟨#[]⟩ 0 0 0 0 0 ⟨#[]⟩ ⟨#[]⟩ 0 none 0 0 none 0 0] w fun e w' => e = .returned (.bool (bare j)) ∧ Below w.heap.size w w' := by
 obtain ⟨x0, x1, x2, x3, xd, xl, xc, aa, ac, rfl, hp⟩ := hv
 unfold jobVal
 obtain ⟨u, P, a, b, c, x, l⟩ := j
 obtain ⟨q0, q1, q2, q3, qs⟩ := x
 obtain ⟨yd, yl, yc, ye, hy⟩ : ∃ yd yl yc, (Value.agg #[.int .i64 x0, .string x1, .string x2, .int .i64 x3, .slice xd xl xc]) = .agg #[.int .i64 q0, .string (bts q1), .string (bts q2), .int .i64 q3, .slice yd yl yc] ∧ yl = qs.length := by
  have h := hp.ask
  rw [AskV] at h
  obtain ⟨ad, len, cap, e, h, _⟩ := h
  exact ⟨ad, len, cap, e, h⟩
 simp only [Value.agg.injEq, Array.mk.injEq, List.cons.injEq, Value.int.injEq, Value.string.injEq, Value.slice.injEq, and_true, true_and] at ye
 obtain ⟨rfl, rfl, rfl, rfl, rfl, rfl, rfl⟩ := ye
 subst hy
 clear hp
 simp only
 have HSA := hid (fun W => sameAsk_zero x0 q1 q2 x3 xd qs.length xc W)
 have HSI := hid (fun W => sameInts_nil aa l.length ac W)
 obtain ⟨U, hU⟩ : ∃ U, bts u = U := ⟨_, rfl⟩
 obtain ⟨K, hK⟩ : ∃ U, bts q1 = U := ⟨_, rfl⟩
 obtain ⟨Z, hZ⟩ : ∃ U, bts q2 = U := ⟨_, rfl⟩
 obtain ⟨n, hn⟩ : ∃ n, l.length = n := ⟨_, rfl⟩
 obtain ⟨m, hm⟩ : ∃ n, qs.length = n := ⟨_, rfl⟩
 obtain ⟨R, hR⟩ : ∃ R, bare (Jb.mk u P a b c (.mk x0 q1 q2 x3 qs) l) = R := ⟨_, rfl⟩
 obtain ⟨s, hs⟩ : ∃ s, (decide (x0 = 0) && q1.isEmpty && q2.isEmpty && decide (x3 = 0) && decide (m = 0)) = s := ⟨_, rfl⟩
 obtain ⟨t, ht⟩ : ∃ s, decide (n = 0) = s := ⟨_, rfl⟩
 obtain ⟨c0, hc0⟩ : ∃ z, (U.toList == []) = z := ⟨_, rfl⟩
 have HE : Hid (R = (c0 && decide (P = 0) && (decide (a = 0) && decide (b = 0) && decide (c = 0)) && s && t)) := hid (by
  have h0 : u.isEmpty = c0 := by rw [← hc0, ← hU, bts_toList]; cases u <;> rfl
  have h3 : l.isEmpty = decide (n = 0) := by rw [← hn]; cases l <;> rfl
  have h8 : qs.isEmpty = decide (m = 0) := by rw [← hm]; cases qs <;> rfl
  rw [← hR, ← hs, ← ht]
  unfold bare
  simp only [Ask.kind, Ask.key, Ask.val, Ask.num, Ask.sub]
  rw [h0, h3, h8]
  apply Bool.eq_iff_iff.2
  simp only [Bool.and_eq_true, decide_eq_true_eq]
  constructor
  ·rintro ⟨⟨⟨⟨⟨⟨⟨⟨h1, h2⟩, h3⟩, h4⟩, h5⟩, h6⟩, h7⟩, h8⟩, h9⟩
   exact ⟨⟨⟨⟨h1, h2⟩, h3⟩, ⟨⟨⟨of_decide_eq_true h5, h6⟩, h7⟩, of_decide_eq_true h8⟩, h9⟩, h4⟩
  ·rintro ⟨⟨⟨⟨h1, h2⟩, h3⟩, ⟨⟨⟨h5, h6⟩, h7⟩, h8⟩, h9⟩, h4⟩
   exact ⟨⟨⟨⟨⟨⟨⟨⟨h1, h2⟩, h3⟩, h4⟩, decide_eq_true h5⟩, h6⟩, h7⟩, decide_eq_true h8⟩, h9⟩)
 rw [hm, hs, hK, hZ] at HSA
 rw [hn, ht] at HSI
 rw [hR, hU, hK, hZ, hn, hm]
 clear hU hK hZ hn hm hR hs ht
 obtain ⟨B, hB⟩ : ∃ B, B = w.heap.size := ⟨_, rfl⟩
 obtain ⟨W1, hW1⟩ : ∃ W, W = w.alloc (.cells #[.string U, .int .i64 P, .int .i64 a, .int .i64 b, .int .i64 c, .int .i64 x0, .string K, .string Z, .int .i64 x3, .slice xd m xc, .slice aa n ac] 29) := ⟨_, rfl⟩
 have hbW1 : Below w.heap.size w W1 := be0 hW1
 have HX : Hid (BoxV B [.string U, .int .i64 P, .int .i64 a, .int .i64 b, .int .i64 c, .int .i64 x0, .string K, .string Z, .int .i64 x3, .slice xd m xc, .slice aa n ac] W1) := hid (by rw [hW1]; exact BoxV.top _ hB)
 obtain ⟨C, hC⟩ : ∃ B, B = W1.heap.size := ⟨_, rfl⟩
 obtain ⟨W0, hW0⟩ : ∃ W, W = W1.alloc (.cells #[.string ⟨#[]⟩, .int .i64 0, .int .i64 0, .int .i64 0, .int .i64 0, .int .i64 0, .string ⟨#[]⟩, .string ⟨#[]⟩, .int .i64 0, .slice none 0 0, .slice none 0 0] 29) := ⟨_, rfl⟩
 have hbW0 : Below W1.heap.size W1 W0 := be0 hW0
 have HY : Hid (BoxV C [.string ⟨#[]⟩, .int .i64 0, .int .i64 0, .int .i64 0, .int .i64 0, .int .i64 0, .string ⟨#[]⟩, .string ⟨#[]⟩, .int .i64 0, .slice none 0 0, .slice none 0 0] W0) := hid (by rw [hW0]; exact BoxV.top _ hC)
 replace HX := hid (HX.out.step hbW0)
 have HB0 : Hid (Below w.heap.size w W0) := hid (hbW1.trans (hbW0.mono hbW1.size))
 have hC' : C = B + 1 := by rw [hC, hW1, hB]; simp
 clear hbW0 hbW1
 go_enter Tryz.func12, Tryz.ntmps12
 go_upto_region 1 with fail
 rw [← hB, ← hW1, ← hW0, ← hC']
 clear hW0 hW1 hB hC hC'
 obtain ⟨b0, b1, b2, b3, b4, b5, b6, b7, b8, b9, b10⟩ := HX.out.c11
 obtain ⟨d0, d1, d2, d3, d4, d5, d6, d7, d8, d9, d10⟩ := HY.out.c11
 have hBl := HX.out.lt
 have hCl := HY.out.lt
 cases c0 with
 | false =>
  obtain rfl : R = false := by rw [HE.out]; simp [*]
  go_wp2_with fail
  go_ret
  exact ⟨rfl, HB0.out⟩
 | true =>
  by_cases h1 : P = 0
  ·subst h1
   by_cases h2 : a = 0
   ·subst h2
    by_cases h3 : b = 0
    ·subst h3
     by_cases h4 : c = 0
     ·subst h4
      go_wp2_with fail
      refine Calls.mono (HSA.out W0) ?_
      rintro e W2 ⟨rfl, hbn⟩
      have HB2 : Hid (Below w.heap.size w W2) := hid (HB0.out.trans (hbn.mono HB0.out.size))
      have qq := below11 hbn hBl b0 b1 b2 b3 b4 b5 b6 b7 b8 b9 b10
      clear b0 b1 b2 b3 b4 b5 b6 b7 b8 b9 b10
      obtain ⟨b0, b1, b2, b3, b4, b5, b6, b7, b8, b9, b10⟩ := qq
      have qq := below11 hbn hCl d0 d1 d2 d3 d4 d5 d6 d7 d8 d9 d10
      clear d0 d1 d2 d3 d4 d5 d6 d7 d8 d9 d10
      obtain ⟨d0, d1, d2, d3, d4, d5, d6, d7, d8, d9, d10⟩ := qq
      replace hBl := Nat.lt_of_lt_of_le hBl hbn.size
      replace hCl := Nat.lt_of_lt_of_le hCl hbn.size
      clear hbn
      cases s with
      | false =>
       obtain rfl : R = false := by rw [HE.out]; simp
       go_wp2_with fail
       go_ret
       exact ⟨rfl, HB2.out⟩
      | true =>
       go_wp2_with fail
       refine Calls.mono (HSI.out W2) ?_
       rintro e W3 ⟨rfl, hbn⟩
       have HB3 : Hid (Below w.heap.size w W3) := hid (HB2.out.trans (hbn.mono HB2.out.size))
       clear hbn
       obtain rfl : R = t := by rw [HE.out]; simp [*]
       go_wp2_with fail
       go_ret
       exact ⟨rfl, HB3.out⟩
     ·have g4 : ((c) == 0) = false := by simp; omega
      obtain rfl : R = false := by rw [HE.out]; simp [*]
      go_wp2_with fail
      go_ret
      exact ⟨rfl, HB0.out⟩
    ·have g3 : ((b) == 0) = false := by simp; omega
     obtain rfl : R = false := by rw [HE.out]; simp [*]
     go_wp2_with fail
     go_ret
     exact ⟨rfl, HB0.out⟩
   ·have g2 : ((a) == 0) = false := by simp; omega
    obtain rfl : R = false := by rw [HE.out]; simp [*]
    go_wp2_with fail
    go_ret
    exact ⟨rfl, HB0.out⟩
  ·have g1 : ((P) == 0) = false := by simp; omega
   obtain rfl : R = false := by rw [HE.out]; simp [*]
   go_wp2_with fail
   go_ret
   exact ⟨rfl, HB0.out⟩
theorem sameEv_by (k : Int) (U : ByteArray) (P a b c x0 : Int) (x1 x2 : ByteArray) (x3 : Int) (xd : Option Addr) (xl xc : Nat) (aa : Option Addr) (n ac : Nat) (N I : Int) (O : Bool) (k2 : Int) (U2 : ByteArray) (P2 a2 b2 c2 y0 : Int) (y1 y2 : ByteArray) (y3 : Int) (yd : Option Addr) (yl yc : Nat) (ab : Option Addr) (n2 ac2 : Nat) (N2 I2 : Int) (O2 : Bool) (w : World) (s : Bool)
  (hs : ∀ W, Below w.heap.size w W → Calls Tryz.prog 12 #[jobVal U P a b c x0 x1 x2 x3 xd xl xc aa n ac, jobVal U2 P2 a2 b2 c2 y0 y1 y2 y3 yd yl yc ab n2 ac2] W fun e w' => e = .returned (.bool s) ∧ Below W.heap.size W w') :
  Calls Tryz.prog 20 #[evVal k U P a b c x0 x1 x2 x3 xd xl xc aa n ac N I O, evVal k2 U2 P2 a2 b2 c2 y0 y1 y2 y3 yd yl yc ab n2 ac2 N2 I2 O2] w fun e w' => e = .returned (.bool ((k == k2) && (N == N2) && (I == I2) && (O == O2) && s)) ∧ Below w.heap.size w w' := by
 have HSJ := hid hs
 unfold jobVal at HSJ
 unfold evVal
 obtain ⟨p1, hp1⟩ : ∃ z, (k == k2) = z := ⟨_, rfl⟩
 obtain ⟨p2, hp2⟩ : ∃ z, (N == N2) = z := ⟨_, rfl⟩
 obtain ⟨p3, hp3⟩ : ∃ z, (I == I2) = z := ⟨_, rfl⟩
 obtain ⟨p4, hp4⟩ : ∃ z, (O == O2) = z := ⟨_, rfl⟩
 obtain ⟨R, hR⟩ : ∃ R, ((k == k2) && (N == N2) && (I == I2) && (O == O2) && s) = R := ⟨_, rfl⟩
 rw [hR]
 have HE : Hid (R = (p1 && p2 && p3 && p4 && s)) := hid (by rw [← hR, hp1, hp2, hp3, hp4])
 clear hR hs
 obtain ⟨B, hB⟩ : ∃ B, B = w.heap.size := ⟨_, rfl⟩
 obtain ⟨W1, hW1⟩ : ∃ W, W = w.alloc (.cells #[.int .i64 k, .string U, .int .i64 P, .int .i64 a, .int .i64 b, .int .i64 c, .int .i64 x0, .string x1, .string x2, .int .i64 x3, .slice xd xl xc, .slice aa n ac, .int .i64 N, .int .i64 I, .bool O] 40) := ⟨_, rfl⟩
 have hbW1 : Below w.heap.size w W1 := be0 hW1
 have HX : Hid (BoxV B [.int .i64 k, .string U, .int .i64 P, .int .i64 a, .int .i64 b, .int .i64 c, .int .i64 x0, .string x1, .string x2, .int .i64 x3, .slice xd xl xc, .slice aa n ac, .int .i64 N, .int .i64 I, .bool O] W1) := hid (by rw [hW1]; exact BoxV.top _ hB)
 obtain ⟨C, hC⟩ : ∃ B, B = W1.heap.size := ⟨_, rfl⟩
 obtain ⟨W0, hW0⟩ : ∃ W, W = W1.alloc (.cells #[.int .i64 k2, .string U2, .int .i64 P2, .int .i64 a2, .int .i64 b2, .int .i64 c2, .int .i64 y0, .string y1, .string y2, .int .i64 y3, .slice yd yl yc, .slice ab n2 ac2, .int .i64 N2, .int .i64 I2, .bool O2] 40) := ⟨_, rfl⟩
 have hbW0 : Below W1.heap.size W1 W0 := be0 hW0
 have HY : Hid (BoxV C [.int .i64 k2, .string U2, .int .i64 P2, .int .i64 a2, .int .i64 b2, .int .i64 c2, .int .i64 y0, .string y1, .string y2, .int .i64 y3, .slice yd yl yc, .slice ab n2 ac2, .int .i64 N2, .int .i64 I2, .bool O2] W0) := hid (by rw [hW0]; exact BoxV.top _ hC)
 replace HX := hid (HX.out.step hbW0)
 have HB0 : Hid (Below w.heap.size w W0) := hid (hbW1.trans (hbW0.mono hbW1.size))
 have hC' : C = B + 1 := by rw [hC, hW1, hB]; simp
 clear hbW0 hbW1
 go_enter Tryz.func20, Tryz.ntmps20
 go_upto_region 1 with fail
 rw [← hB, ← hW1, ← hW0, ← hC']
 clear hW0 hW1 hB hC hC'
 obtain ⟨b0, b1, b2, b3, b4, b5, b6, b7, b8, b9, b10, b11, b12, b13, b14⟩ := HX.out.c15
 obtain ⟨d0, d1, d2, d3, d4, d5, d6, d7, d8, d9, d10, d11, d12, d13, d14⟩ := HY.out.c15
 have hBl := HX.out.lt
 have hCl := HY.out.lt
 cases p1 with
 | false =>
  obtain rfl : R = false := by rw [HE.out]; simp [*]
  go_wp2_with fail
  go_ret
  exact ⟨rfl, HB0.out⟩
 | true =>
  cases p2 with
  | false =>
   obtain rfl : R = false := by rw [HE.out]; simp [*]
   go_wp2_with fail
   go_ret
   exact ⟨rfl, HB0.out⟩
  | true =>
   cases p3 with
   | false =>
    obtain rfl : R = false := by rw [HE.out]; simp [*]
    go_wp2_with fail
    go_ret
    exact ⟨rfl, HB0.out⟩
   | true =>
    cases p4 with
    | false =>
     obtain rfl : R = false := by rw [HE.out]; simp [*]
     go_wp2_with fail
     go_ret
     exact ⟨rfl, HB0.out⟩
    | true =>
     go_wp2_with fail
     refine Calls.mono (HSJ.out W0 HB0.out) ?_
     rintro e W2 ⟨rfl, hbn⟩
     have HB2 : Hid (Below w.heap.size w W2) := hid (HB0.out.trans (hbn.mono HB0.out.size))
     clear hbn
     obtain rfl : R = s := by rw [HE.out]; simp
     go_wp2_with fail
     go_ret
     exact ⟨rfl, HB2.out⟩
theorem sameEv_same (x : Evt) (v v' : Value) (w : World) (hv : EvV w x v) (hv' : EvV w x v') : Calls Tryz.prog 20 #[v, v'] w fun e w' => e = .returned (.bool true) ∧ Below w.heap.size w w' := by
 obtain ⟨x0, x1, x2, x3, xd, xl, xc, aa, ac, rfl, hp⟩ := hv
 obtain ⟨z0, z1, z2, z3, zd, zl, zc, za, zc2, rfl, hp'⟩ := hv'
 have h := sameEv_by x.kind (bts x.job.user) x.job.prio x.job.a x.job.b x.job.c x0 x1 x2 x3 xd xl xc aa x.job.after.length ac x.n x.id x.ok x.kind (bts x.job.user) x.job.prio x.job.a x.job.b x.job.c z0 z1 z2 z3 zd zl zc za x.job.after.length zc2 x.n x.id x.ok w true (fun W h => sameJob_same x.job _ _ W (hp.toV.below h) (hp'.toV.below h))
 simpa using h
end Go.Proofs.YtkemlckmfgacdaaGreatDoor
