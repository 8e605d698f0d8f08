/- Contract: the document's EventBytes. -/
import Derived.Test.YtkemlckmfgacdaaGreatDoorJnP21
import Derived.Test.YtkemlckmfgacdaaGreatDoorJnP23
import Derived.Test.YtkemlckmfgacdaaGreatDoorJnP0
import Derived.Test.YtkemlckmfgacdaaGreatDoorJnP1
namespace Go.Proofs.YtkemlckmfgacdaaGreatDoor
set_option maxRecDepth 20000
set_option maxHeartbeats 64000000
open Go.ChangeShapes Go.WideShapes Go.ChangeAt Go.RowKit
set_option linter.unusedVariables false
set_option linter.unusedSimpArgs false
open Tp Jm Ev
def BytQ (w : World) (s : Bs) (e : Ending) (w' : World) : Prop := ∃ v', e = .returned v' ∧ OwnB w' w.heap.size v' s ∧ Below w.heap.size w w'
theorem bytes_any (x : Evt) (v : Value) (w : World) (hf : x.fault = 0) (hv : EvV w x v) : Calls Tryz.prog 18 #[v] w (BytQ w x.bytes) := by
 obtain ⟨x0, x1, x2, x3, xd, xl, xc, aa, ac, rfl, hp⟩ := hv
 have hjv := hp.toV
 obtain ⟨E, hE⟩ : ∃ E, x.bytes = E := ⟨_, rfl⟩
 have HK := hid (fault_kind hf)
 have HJF : Hid (x.kind = 1 → x.job.fault = 0) := hid (fun h => fault_job hf h)
 have HRG : Hid (x.kind ≠ 1 → (0 ≤ x.n ∧ x.n ≤ 1000000000) ∧ (0 ≤ x.id ∧ x.id ≤ 65535)) := hid (fun h => fault_range hf h)
 have HE1 : Hid (E = UInt8.ofNat x.kind.toNat :: x.rest) := hid hE.symm
 rw [hE]
 have HTX := hid (fun (h : x.kind = 1) W (hb : Below w.heap.size w W) => jobTextR_any x.job _ W (fault_job hf h) (hjv.below hb))
 have HTL : Hid (x.kind = 1 → x.job.text.length ≤ 3000) := hid (fun h => text_le (fault_job hf h))
 obtain ⟨k, j, N, I, O⟩ := x
 unfold evVal
 unfold jobVal at HTX
 simp only at HTX HTL HK HJF HRG HE1 ⊢
 have HRS : Hid (Evt.rest ⟨k, j, N, I, O⟩ = if k = 1 then j.text else if k = 2 then be N.toNat 4 else if k = 4 then be I.toNat 2 ++ [bit O] else if k = 5 then be I.toNat 2 else []) := hid rfl
 obtain ⟨T, hT⟩ : ∃ T, j.text = T := ⟨_, rfl⟩
 rw [hT] at HTX HTL HRS
 obtain ⟨R, hR⟩ : ∃ R, Evt.rest ⟨k, j, N, I, O⟩ = R := ⟨_, rfl⟩
 rw [hR] at HE1 HRS
 obtain ⟨u, P, a, b, c, x, l⟩ := j
 simp only at HTX ⊢
 obtain ⟨U, hU⟩ : ∃ U, bts u = U := ⟨_, rfl⟩
 obtain ⟨n, hn⟩ : ∃ n, l.length = n := ⟨_, rfl⟩
 rw [hU, hn] at HTX ⊢
 obtain ⟨B, hB⟩ : ∃ B, B = w.heap.size := ⟨_, rfl⟩
 obtain ⟨W0, hW0⟩ : ∃ W, W = w.alloc (.cells #[.int .i64 k, .string U, .int .i64 P, .int .i64 a, .int .i64 b, .int .i64 c, .int .i64 x0, .string x1, .string x2, .int .i64 x3, .slice xd xl xc, .slice aa n ac, .int .i64 N, .int .i64 I, .bool O] 40) := ⟨_, rfl⟩
 have hbW0 : Below w.heap.size w W0 := be0 hW0
 have HX : Hid (BoxV B [.int .i64 k, .string U, .int .i64 P, .int .i64 a, .int .i64 b, .int .i64 c, .int .i64 x0, .string x1, .string x2, .int .i64 x3, .slice xd xl xc, .slice aa n ac, .int .i64 N, .int .i64 I, .bool O] W0) := hid (by rw [hW0]; exact BoxV.top _ hB)
 have HB0 := hid hbW0
 clear hbW0 hU hn hf hE hT hR hp hjv
 go_enter Tryz.func18, Tryz.ntmps18
 go_upto_region 1 with fail
 rw [← hW0, ← hB]
 clear hW0 hB
 obtain ⟨b0, b1, b2, b3, b4, b5, b6, b7, b8, b9, b10, b11, b12, b13, b14⟩ := HX.out.c15
 have hBl := HX.out.lt
 obtain ⟨H, hH⟩ : ∃ H, H = W0.heap.size := ⟨_, rfl⟩
 have HH : Hid (w.heap.size ≤ H) := hid (by rw [hH]; exact HB0.out.size)
 have HBH : Hid (B < H) := hid (by rw [hH]; exact HX.out.lt)
 rcases HK.out with rfl | rfl | rfl | rfl | rfl
 ·have HRK : Hid (R = T) := hid (by rw [HRS.out]; simp)
  obtain ⟨W2, hW2⟩ : ∃ W, W = W0.alloc (.cells #[.int .u8 1] 5) := ⟨_, rfl⟩
  have hb2 : Below W0.heap.size W0 W2 := be0 hW2
  have HB2 : Hid (Below w.heap.size w W2) := hid (HB0.out.trans (hb2.mono HB0.out.size))
  have HX2 := hid (HX.out.step hb2)
  have HO2 : Hid (OwnB W2 H (.slice (some ⟨H, 0, none⟩) 1 1) [1]) := hid (by rw [hW2]; exact OwnB.one hH.symm lr 1)
  have HH2 : Hid (H ≤ W2.heap.size) := hid (by rw [hH]; exact hb2.size)
  clear hb2
  go_upto_region 2 with fail
  rw [← hW2, ← hH]
  clear hW2 hH
  clear hBl b0 b1 b2 b3 b4 b5 b6 b7 b8 b9 b10 b11 b12 b13 b14
  obtain ⟨b0, b1, b2, b3, b4, b5, b6, b7, b8, b9, b10, b11, b12, b13, b14⟩ := HX2.out.c15
  have hBl := HX2.out.lt
  have HT1 := hid (HTL.out (by trivial))
  have HT2 := hid (HTX.out (by trivial) W2 HB2.out)
  go_wp2_with fail
  refine Calls.mono HT2.out ?_
  rintro e W3 ⟨rfl, hbn⟩
  have HB3 : Hid (Below w.heap.size w W3) := hid (HB2.out.trans (hbn.mono HB2.out.size))
  have HO3 := hid (HO2.out.below hbn)
  have HX3 := hid (HX2.out.step hbn)
  have HH3 : Hid (H ≤ W3.heap.size) := hid (Nat.le_trans HH2.out hbn.size)
  have HSR : Hid (Src Tryz.prog 1 9 (.string (bts T)) T.length (u8s T) W3) := hid (src_text W3 T rfl)
  clear hbn
  clear hBl b0 b1 b2 b3 b4 b5 b6 b7 b8 b9 b10 b11 b12 b13 b14
  obtain ⟨b0, b1, b2, b3, b4, b5, b6, b7, b8, b9, b10, b11, b12, b13, b14⟩ := HX3.out.c15
  have hBl := HX3.out.lt
  go_wp2_with (at_builtin; refine wpList_append_b (by rfl) (.tmp 12) (.tmp 15) 9 (by rfl) (H := H) (S := [1]) (v := .slice (some ⟨H, 0, none⟩) 1 1) (by rfl) HO3.out (by rfl) HSR.out rfl (by have := HT1.out; simp; omega) HH3.out ?_; intro v4 W4 hown hbw; have HO4 := hid hown; have HB4 : Hid (Below w.heap.size w W4) := hid (HB3.out.trans (hbw.mono HH.out)); clear hown hbw; clear b0 b1 b2 b3 b4 b5 b6 b7 b8 b9 b10 b11 b12 b13 b14)
  go_wp2_with fail
  go_ret
  refine ⟨v4, rfl, ?_, HB4.out⟩
  rw [HE1.out, HRK.out]
  exact HO4.out.low HH.out
 ·have HRK : Hid (R = be N.toNat 4) := hid (by rw [HRS.out]; simp)
  obtain ⟨W2, hW2⟩ : ∃ W, W = W0.alloc (.cells #[.int .u8 2] 5) := ⟨_, rfl⟩
  have hb2 : Below W0.heap.size W0 W2 := be0 hW2
  have HB2 : Hid (Below w.heap.size w W2) := hid (HB0.out.trans (hb2.mono HB0.out.size))
  have HX2 := hid (HX.out.step hb2)
  have HO2 : Hid (OwnB W2 H (.slice (some ⟨H, 0, none⟩) 1 1) [2]) := hid (by rw [hW2]; exact OwnB.one hH.symm lr 2)
  have HH2 : Hid (H ≤ W2.heap.size) := hid (by rw [hH]; exact hb2.size)
  clear hb2
  go_upto_region 2 with fail
  rw [← hW2, ← hH]
  clear hW2 hH
  clear hBl b0 b1 b2 b3 b4 b5 b6 b7 b8 b9 b10 b11 b12 b13 b14
  obtain ⟨b0, b1, b2, b3, b4, b5, b6, b7, b8, b9, b10, b11, b12, b13, b14⟩ := HX2.out.c15
  have hBl := HX2.out.lt
  obtain ⟨M, hM⟩ : ∃ M : Nat, N = (M : Int) := ⟨N.toNat, by have := HRG.out (by decide); omega⟩
  have HM : Hid (M ≤ 1000000000) := hid (by have := HRG.out (by decide); omega)
  obtain rfl := hM
  have HRM : Hid (R = be M 4) := hid (by rw [HRK.out, Int.toNat_natCast])
  have HNU := hid (bytesOf_any M 4 W2 (by decide) (by have := HM.out; omega))
  have hwu : IntKind.u64.wrap (M : Int) = (M : Int) := IntWalk.u64_in _ (by have := HM.out; omega)
  go_wp2_with fail
  refine Calls.mono HNU.out ?_
  rintro e W3 ⟨v3, rfl, hown, hbn⟩
  have HB3 : Hid (Below w.heap.size w W3) := hid (HB2.out.trans (hbn.mono HB2.out.size))
  have HO3 := hid (HO2.out.below hbn)
  have HX3 := hid (HX2.out.step hbn)
  have HH3 : Hid (H ≤ W3.heap.size) := hid (Nat.le_trans HH2.out hbn.size)
  have HSR : Hid (Src Tryz.prog 1 41 v3 4 (u8s (be M 4)) W3) := hid (src_own hown (be_len M 4))
  clear hown hbn
  clear hBl b0 b1 b2 b3 b4 b5 b6 b7 b8 b9 b10 b11 b12 b13 b14
  obtain ⟨b0, b1, b2, b3, b4, b5, b6, b7, b8, b9, b10, b11, b12, b13, b14⟩ := HX3.out.c15
  have hBl := HX3.out.lt
  go_wp2_with (at_builtin; refine wpList_append_b (by rfl) (.tmp 19) (.tmp 23) 41 (by rfl) (H := H) (S := [2]) (v := .slice (some ⟨H, 0, none⟩) 1 1) (by rfl) HO3.out (by rfl) HSR.out (be_len M 4) (by decide) HH3.out ?_; intro v4 W4 hown hbw; have HO4 := hid hown; have HB4 : Hid (Below w.heap.size w W4) := hid (HB3.out.trans (hbw.mono HH.out)); have HX4 := hid (HX3.out.below hbw HBH.out); have HH4 : Hid (H ≤ W4.heap.size) := hid (Nat.le_trans HH3.out hbw.size); clear hown hbw; clear hBl b0 b1 b2 b3 b4 b5 b6 b7 b8 b9 b10 b11 b12 b13 b14)
  go_wp2_with fail
  go_ret
  refine ⟨v4, rfl, ?_, HB4.out⟩
  rw [HE1.out, HRM.out]
  exact HO4.out.low HH.out
 ·have HRK : Hid (R = []) := hid (by rw [HRS.out]; simp)
  obtain ⟨W2, hW2⟩ : ∃ W, W = W0.alloc (.cells #[.int .u8 3] 5) := ⟨_, rfl⟩
  have hb2 : Below W0.heap.size W0 W2 := be0 hW2
  have HB2 : Hid (Below w.heap.size w W2) := hid (HB0.out.trans (hb2.mono HB0.out.size))
  have HX2 := hid (HX.out.step hb2)
  have HO2 : Hid (OwnB W2 H (.slice (some ⟨H, 0, none⟩) 1 1) [3]) := hid (by rw [hW2]; exact OwnB.one hH.symm lr 3)
  have HH2 : Hid (H ≤ W2.heap.size) := hid (by rw [hH]; exact hb2.size)
  clear hb2
  go_upto_region 2 with fail
  rw [← hW2, ← hH]
  clear hW2 hH
  clear hBl b0 b1 b2 b3 b4 b5 b6 b7 b8 b9 b10 b11 b12 b13 b14
  obtain ⟨b0, b1, b2, b3, b4, b5, b6, b7, b8, b9, b10, b11, b12, b13, b14⟩ := HX2.out.c15
  have hBl := HX2.out.lt
  go_wp2_with fail
  go_ret
  refine ⟨_, rfl, ?_, HB2.out⟩
  rw [HE1.out, HRK.out]
  exact HO2.out.low HH.out
 ·have HRK : Hid (R = be I.toNat 2 ++ [bit O]) := hid (by rw [HRS.out]; simp)
  obtain ⟨W2, hW2⟩ : ∃ W, W = W0.alloc (.cells #[.int .u8 4] 5) := ⟨_, rfl⟩
  have hb2 : Below W0.heap.size W0 W2 := be0 hW2
  have HB2 : Hid (Below w.heap.size w W2) := hid (HB0.out.trans (hb2.mono HB0.out.size))
  have HX2 := hid (HX.out.step hb2)
  have HO2 : Hid (OwnB W2 H (.slice (some ⟨H, 0, none⟩) 1 1) [4]) := hid (by rw [hW2]; exact OwnB.one hH.symm lr 4)
  have HH2 : Hid (H ≤ W2.heap.size) := hid (by rw [hH]; exact hb2.size)
  clear hb2
  go_upto_region 2 with fail
  rw [← hW2, ← hH]
  clear hW2 hH
  clear hBl b0 b1 b2 b3 b4 b5 b6 b7 b8 b9 b10 b11 b12 b13 b14
  obtain ⟨b0, b1, b2, b3, b4, b5, b6, b7, b8, b9, b10, b11, b12, b13, b14⟩ := HX2.out.c15
  have hBl := HX2.out.lt
  obtain ⟨M, hM⟩ : ∃ M : Nat, I = (M : Int) := ⟨I.toNat, by have := HRG.out (by decide); omega⟩
  have HM : Hid (M ≤ 65535) := hid (by have := HRG.out (by decide); omega)
  obtain rfl := hM
  have HRM : Hid (R = be M 2 ++ [bit O]) := hid (by rw [HRK.out, Int.toNat_natCast])
  have HNU := hid (bytesOf_any M 2 W2 (by decide) (by have := HM.out; omega))
  have hwu : IntKind.u64.wrap (M : Int) = (M : Int) := IntWalk.u64_in _ (by have := HM.out; omega)
  go_wp2_with fail
  refine Calls.mono HNU.out ?_
  rintro e W3 ⟨v3, rfl, hown, hbn⟩
  have HB3 : Hid (Below w.heap.size w W3) := hid (HB2.out.trans (hbn.mono HB2.out.size))
  have HO3 := hid (HO2.out.below hbn)
  have HX3 := hid (HX2.out.step hbn)
  have HH3 : Hid (H ≤ W3.heap.size) := hid (Nat.le_trans HH2.out hbn.size)
  have HSR : Hid (Src Tryz.prog 1 41 v3 2 (u8s (be M 2)) W3) := hid (src_own hown (be_len M 2))
  clear hown hbn
  clear hBl b0 b1 b2 b3 b4 b5 b6 b7 b8 b9 b10 b11 b12 b13 b14
  obtain ⟨b0, b1, b2, b3, b4, b5, b6, b7, b8, b9, b10, b11, b12, b13, b14⟩ := HX3.out.c15
  have hBl := HX3.out.lt
  go_upto_region 9 with (at_builtin; refine wpList_append_b (by rfl) (.tmp 27) (.tmp 31) 41 (by rfl) (H := H) (S := [4]) (v := .slice (some ⟨H, 0, none⟩) 1 1) (by rfl) HO3.out (by rfl) HSR.out (be_len M 2) (by decide) HH3.out ?_; intro v4 W4 hown hbw; have HO4 := hid hown; have HB4 : Hid (Below w.heap.size w W4) := hid (HB3.out.trans (hbw.mono HH.out)); have HX4 := hid (HX3.out.below hbw HBH.out); have HH4 : Hid (H ≤ W4.heap.size) := hid (Nat.le_trans HH3.out hbw.size); clear hown hbw; clear hBl b0 b1 b2 b3 b4 b5 b6 b7 b8 b9 b10 b11 b12 b13 b14; have b0 := HX4.out.cell 0 _ rfl; have b1 := HX4.out.cell 1 _ rfl; have b2 := HX4.out.cell 2 _ rfl; have b3 := HX4.out.cell 3 _ rfl; have b4 := HX4.out.cell 4 _ rfl; have b5 := HX4.out.cell 5 _ rfl; have b6 := HX4.out.cell 6 _ rfl; have b7 := HX4.out.cell 7 _ rfl; have b8 := HX4.out.cell 8 _ rfl; have b9 := HX4.out.cell 9 _ rfl; have b10 := HX4.out.cell 10 _ rfl; have b11 := HX4.out.cell 11 _ rfl; have b12 := HX4.out.cell 12 _ rfl; have b13 := HX4.out.cell 13 _ rfl; have b14 := HX4.out.cell 14 _ rfl; have hBl := HX4.out.lt)
  have HL3 : Hid (([4] ++ be M 2 : Bs).length + 1 ≤ 1000000000000) := hid (by simp [be_len])
  cases O with
  | true =>
   go_wp2_with (at_builtin; refine wpList_append_b (by rfl) (.tmp 35) (.tmp 36) 41 (by rfl) (H := H) (S := [4] ++ be M 2) (v := v4) (by rfl) (HO4.out.alloc _) (by rfl) (src_one rfl 1) rfl HL3.out (by simp; exact Nat.le_succ_of_le HH4.out) ?_; intro v5 W5 hown hbw; have HO5 := hid hown; have HB5 : Hid (Below w.heap.size w W5) := hid ((HB4.out.alloc (Nat.le_trans HH.out HH4.out) _).trans (hbw.mono HH.out)); clear hown hbw; clear b0 b1 b2 b3 b4 b5 b6 b7 b8 b9 b10 b11 b12 b13 b14)
   go_wp2_with fail
   go_ret
   refine ⟨v5, rfl, ?_, HB5.out⟩
   rw [HE1.out, HRM.out]
   exact HO5.out.low HH.out
  | false =>
   go_wp2_with (at_builtin; refine wpList_append_b (by rfl) (.tmp 38) (.tmp 39) 41 (by rfl) (H := H) (S := [4] ++ be M 2) (v := v4) (by rfl) (HO4.out.alloc _) (by rfl) (src_one rfl 0) rfl HL3.out (by simp; exact Nat.le_succ_of_le HH4.out) ?_; intro v5 W5 hown hbw; have HO5 := hid hown; have HB5 : Hid (Below w.heap.size w W5) := hid ((HB4.out.alloc (Nat.le_trans HH.out HH4.out) _).trans (hbw.mono HH.out)); clear hown hbw; clear b0 b1 b2 b3 b4 b5 b6 b7 b8 b9 b10 b11 b12 b13 b14)
   go_wp2_with fail
   go_ret
   refine ⟨v5, rfl, ?_, HB5.out⟩
   rw [HE1.out, HRM.out]
   exact HO5.out.low HH.out
 ·have HRK : Hid (R = be I.toNat 2) := hid (by rw [HRS.out]; simp)
  obtain ⟨W2, hW2⟩ : ∃ W, W = W0.alloc (.cells #[.int .u8 5] 5) := ⟨_, rfl⟩
  have hb2 : Below W0.heap.size W0 W2 := be0 hW2
  have HB2 : Hid (Below w.heap.size w W2) := hid (HB0.out.trans (hb2.mono HB0.out.size))
  have HX2 := hid (HX.out.step hb2)
  have HO2 : Hid (OwnB W2 H (.slice (some ⟨H, 0, none⟩) 1 1) [5]) := hid (by rw [hW2]; exact OwnB.one hH.symm lr 5)
  have HH2 : Hid (H ≤ W2.heap.size) := hid (by rw [hH]; exact hb2.size)
  clear hb2
  go_upto_region 2 with fail
  rw [← hW2, ← hH]
  clear hW2 hH
  clear hBl b0 b1 b2 b3 b4 b5 b6 b7 b8 b9 b10 b11 b12 b13 b14
  obtain ⟨b0, b1, b2, b3, b4, b5, b6, b7, b8, b9, b10, b11, b12, b13, b14⟩ := HX2.out.c15
  have hBl := HX2.out.lt
  obtain ⟨M, hM⟩ : ∃ M : Nat, I = (M : Int) := ⟨I.toNat, by have := HRG.out (by decide); omega⟩
  have HM : Hid (M ≤ 65535) := hid (by have := HRG.out (by decide); omega)
  obtain rfl := hM
  have HRM : Hid (R = be M 2) := hid (by rw [HRK.out, Int.toNat_natCast])
  have HNU := hid (bytesOf_any M 2 W2 (by decide) (by have := HM.out; omega))
  have hwu : IntKind.u64.wrap (M : Int) = (M : Int) := IntWalk.u64_in _ (by have := HM.out; omega)
  go_wp2_with fail
  refine Calls.mono HNU.out ?_
  rintro e W3 ⟨v3, rfl, hown, hbn⟩
  have HB3 : Hid (Below w.heap.size w W3) := hid (HB2.out.trans (hbn.mono HB2.out.size))
  have HO3 := hid (HO2.out.below hbn)
  have HX3 := hid (HX2.out.step hbn)
  have HH3 : Hid (H ≤ W3.heap.size) := hid (Nat.le_trans HH2.out hbn.size)
  have HSR : Hid (Src Tryz.prog 1 41 v3 2 (u8s (be M 2)) W3) := hid (src_own hown (be_len M 2))
  clear hown hbn
  clear hBl b0 b1 b2 b3 b4 b5 b6 b7 b8 b9 b10 b11 b12 b13 b14
  obtain ⟨b0, b1, b2, b3, b4, b5, b6, b7, b8, b9, b10, b11, b12, b13, b14⟩ := HX3.out.c15
  have hBl := HX3.out.lt
  go_wp2_with (at_builtin; refine wpList_append_b (by rfl) (.tmp 43) (.tmp 47) 41 (by rfl) (H := H) (S := [5]) (v := .slice (some ⟨H, 0, none⟩) 1 1) (by rfl) HO3.out (by rfl) HSR.out (be_len M 2) (by decide) HH3.out ?_; intro v4 W4 hown hbw; have HO4 := hid hown; have HB4 : Hid (Below w.heap.size w W4) := hid (HB3.out.trans (hbw.mono HH.out)); have HX4 := hid (HX3.out.below hbw HBH.out); have HH4 : Hid (H ≤ W4.heap.size) := hid (Nat.le_trans HH3.out hbw.size); clear hown hbw; clear hBl b0 b1 b2 b3 b4 b5 b6 b7 b8 b9 b10 b11 b12 b13 b14)
  go_wp2_with fail
  go_ret
  refine ⟨v4, rfl, ?_, HB4.out⟩
  rw [HE1.out, HRM.out]
  exact HO4.out.low HH.out
end Go.Proofs.YtkemlckmfgacdaaGreatDoor
namespace Go.Proofs.YtkemlckmfgacdaaGreatDoor
set_option maxRecDepth 20000
set_option maxHeartbeats 64000000
open Go.ChangeShapes Go.WideShapes Go.ChangeAt Go.RowKit
set_option linter.unusedVariables false
set_option linter.unusedSimpArgs false
open Tp
def sumV (u z : Int) : Int := IntKind.u64.wrap (IntKind.u64.wrap (u + z) * 11400714785074694791)
def sumStep (u : Int) (c : UInt8) : Int := bits .xor .u64 (sumV u c.toNat) (sumV u c.toNat / 2147483648)
def sumI (u : Int) (s : Bs) : Int := s.foldl sumStep u
theorem sum_take {u : Int} {s : Bs} {k : Nat} {c : UInt8} (h : s[k]? = some c) : sumI u (s.take (k + 1)) = sumStep (sumI u (s.take k)) c := by
 unfold sumI
 rw [take_snoc h, List.foldl_append]
 rfl
theorem u64_is (x : Int) : IntKind.u64.wrap x = x % 18446744073709551616 := by
 rw [IntKind.wrap_u64]
theorem u64_lo (x : Int) : 0 ≤ IntKind.u64.wrap x := by rw [u64_is]; omega
theorem u64_hi (x : Int) : IntKind.u64.wrap x ≤ 18446744073709551615 := by rw [u64_is]; omega
theorem sumStep_in (u : Int) (c : UInt8) : 0 ≤ sumStep u c ∧ sumStep u c ≤ 18446744073709551615 := by
 unfold sumStep
 exact ⟨u64_lo _, u64_hi _⟩
theorem sumI_in : ∀ (s : Bs) (u : Int), 0 ≤ u → u ≤ 18446744073709551615 → 0 ≤ sumI u s ∧ sumI u s ≤ 18446744073709551615
 | [], u, h0, h1 => ⟨h0, h1⟩
 | c :: s, u, _, _ => sumI_in s (sumStep u c) (sumStep_in u c).1 (sumStep_in u c).2
theorem times_odd (a b p q r : Int) (h : IntKind.u64.wrap (r + p * q) = IntKind.u64.wrap (a * b)) (ho : q % 2 = 1) :
  IntKind.u64.wrap (IntKind.u64.wrap (r + p) + IntKind.u64.wrap (p + p) * (q / 2)) = IntKind.u64.wrap (a * b) := by
 rw [← h]
 simp only [u64_is]
 have e1 := Int.emod_add_mul_ediv (r + p) 18446744073709551616
 have e2 := Int.emod_add_mul_ediv (p + p) 18446744073709551616
 have e3 : q = 2 * (q / 2) + 1 := by omega
 clear h
 generalize q / 2 = k at *
 generalize (r + p) % 18446744073709551616 = x at *
 generalize (p + p) % 18446744073709551616 = y at *
 generalize (r + p) / 18446744073709551616 = i at *
 generalize (p + p) / 18446744073709551616 = j at *
 subst e3
 have e : r + p * (2 * k + 1) = (x + y * k) + 18446744073709551616 * (i + j * k) := by grind
 rw [e, Int.add_mul_emod_self_left]
theorem times_even (a b p q r : Int) (h : IntKind.u64.wrap (r + p * q) = IntKind.u64.wrap (a * b)) (ho : ¬ q % 2 = 1) :
  IntKind.u64.wrap (r + IntKind.u64.wrap (p + p) * (q / 2)) = IntKind.u64.wrap (a * b) := by
 rw [← h]
 simp only [u64_is]
 have e2 := Int.emod_add_mul_ediv (p + p) 18446744073709551616
 have e3 : q = 2 * (q / 2) := by omega
 clear h
 generalize q / 2 = k at *
 generalize (p + p) % 18446744073709551616 = y at *
 generalize (p + p) / 18446744073709551616 = j at *
 subst e3
 have e : r + p * (2 * k) = (r + y * k) + 18446744073709551616 * (j * k) := by grind
 rw [e, Int.add_mul_emod_self_left]
theorem sum_any (u : Int) (s : Bs) (w : World) (hs : s.length ≤ 9223372036854775807) : Calls Tryz.prog 54 #[.int .u64 u, .string (bts s)] w fun e w' => e = .returned (.int .u64 (sumI u s)) ∧ Below w.heap.size w w' := by
 obtain ⟨S, hS⟩ : ∃ S, bts s = S := ⟨_, rfl⟩
 obtain ⟨n, hn⟩ : ∃ n, S.size = n := ⟨_, rfl⟩
 have hns : s.length = n := by rw [← hn, ← hS, bts_size]
 have HL : Hid (lst S = s) := hid (by rw [← hS, lst_bts])
 have HN := hid hns
 rw [hS]
 have hn63 : Hid (n ≤ 9223372036854775807) := hid (by omega)
 have hcv := fun w => run_bytes_of_string (P := Tryz.prog) w 9 41 5 S Tryz.underlying9 Tryz.underlying41 Tryz.underlying5
 clear hS hns hs
 go_enter Tryz.func54, Tryz.ntmps54
 go_wp2_with fail
 go_loopg [5, 12] n (fun g x y wr => ∃ (j : Nat) (U : Int), j + g = n ∧ x = .int .u64 U ∧ y = .int .i64 (j : Int) ∧ Hid (U = sumI u (s.take j)) ∧ LabRow S w wr)
 case atStart => exact ⟨0, u, by omega, rfl, rfl, hid rfl, labRow_start w S _ _ _⟩
 case round =>
  obtain ⟨j, U, hj, rfl, rfl, HU, hB, hrow⟩ := hrel
  have HJ := hid hj
  have HB := hid hB
  have HR := hid hrow
  by_cases hjn : j < n
  ·obtain ⟨c, hc⟩ : ∃ c, s[j]? = some c := ⟨_, List.getElem?_eq_getElem (by rw [HN.out]; exact hjn)⟩
   have hr := hrow j c (by rw [HL.out]; exact hc)
   have hbh := hB.1
   obtain ⟨z, hz⟩ : ∃ z : Int, (c.toNat : Int) = z := ⟨_, rfl⟩
   have hz0 : 0 ≤ z := by omega
   rw [hz] at hr
   have hj1 : (0 : Int) ≤ (j : Int) := by omega
   have hj2 : (j : Int) < (n : Int) := by omega
   have hw : IntKind.i64.wrap ((j : Int) + 1) = ((j + 1 : Nat) : Int) := IntWalk.i64_in _ (by have := hn63.out; omega)
   have HC := hid hc
   have HZ := hid hz
   have hwz : IntKind.u64.wrap z = z := IntWalk.u64_in _ (by have := c.toNat_lt; omega)
   have HS : Hid (bits .xor .u64 (IntKind.u64.wrap (IntKind.u64.wrap (U + z) * 11400714785074694791)) (IntKind.u64.wrap (IntKind.u64.wrap (U + z) * 11400714785074694791) / 2147483648) = sumI u (s.take (j + 1))) := hid (by rw [sum_take hc, ← HU.out, ← hz]; rfl)
   clear hc hz hrow hj hB
   go_wp2_with fail
   go_roundg (n - (j + 1))
   case measure => (have := HJ.out; omega)
   case rel => exact ⟨j + 1, _, by have := HJ.out; omega, rfl, by simp, HS, HB.out, HR.out⟩
  ·have hj2 : ¬ (j : Int) < (n : Int) := by omega
   have HF : Hid (U = sumI u s) := hid (by rw [HU.out, List.take_of_length_le (by have := HN.out; omega)])
   clear hj hjn hrow hB
   go_wp2_with fail
   go_ret
   exact ⟨by rw [← HF.out]; rfl, HB.out⟩
theorem times_any (a b : Int) (w : World) (h1 : 0 ≤ a) (h2 : a ≤ 18446744073709551615) (h3 : 0 ≤ b) (h4 : b ≤ 18446744073709551615) :
  Calls Tryz.prog 77 #[.int .u64 a, .int .u64 b] w fun e w' => e = .returned (.int .u64 (IntKind.u64.wrap (a * b))) ∧ w = w' := by
 go_enter Tryz.func77, Tryz.ntmps77
 go_wp2
 go_loop [0, 1, 5] (fun x y z => ∃ p q r : Int, x = .int .u64 p ∧ y = .int .u64 q ∧ z = .int .u64 r ∧ 0 ≤ p ∧ p ≤ 18446744073709551615 ∧ 0 ≤ q ∧ q ≤ 18446744073709551615 ∧ 0 ≤ r ∧ r ≤ 18446744073709551615 ∧ Hid (IntKind.u64.wrap (r + p * q) = IntKind.u64.wrap (a * b))) (fun _ y _ => (intOf y).toNat)
 case atStart => exact ⟨a, b, 0, rfl, rfl, rfl, h1, h2, h3, h4, by omega, by omega, hid (by rw [Int.zero_add])⟩
 case round =>
  obtain ⟨p, q, r, rfl, rfl, rfl, p1, p2, q1, q2, r1, r2, H⟩ := hrel
  go_wp2
  ·have hq : 0 < q := by assumption
   have ho : (q % 2 == 1) = true := by assumption
   go_round
   case rel => exact ⟨_, _, _, rfl, rfl, rfl, u64_lo _, u64_hi _, by omega, by omega, u64_lo _, u64_hi _, hid (times_odd _ _ _ _ _ H.out (by simpa using ho))⟩
   case measure => simp [intOf]; omega
  ·have hq : 0 < q := by assumption
   have ho : (q % 2 == 1) = false := by assumption
   go_round
   case rel => exact ⟨_, _, _, rfl, rfl, rfl, u64_lo _, u64_hi _, by omega, by omega, r1, r2, hid (times_even _ _ _ _ _ H.out (by simpa using ho))⟩
   case measure => simp [intOf]; omega
  ·have hq : q ≤ 0 := by assumption
   have hz : q = 0 := by omega
   subst hz
   have h := H.out
   go_ret
   refine ⟨ret_int ?_, rfl⟩
   rw [← h, Int.mul_zero, Int.add_zero, u64_is]
   omega
theorem sumOf_any (u : Int) (s : Bs) (w : World) (hs : s.length ≤ 9223372036854775807) (h0 : 0 ≤ u) (h1 : u ≤ 18446744073709551615) : Calls Tryz.prog 56 #[.int .u64 u, .string (bts s)] w fun e w' => e = .returned (.int .u64 (sumI u s)) ∧ w' = w := by
 obtain ⟨S, hS⟩ : ∃ S, bts s = S := ⟨_, rfl⟩
 obtain ⟨n, hn⟩ : ∃ n, S.size = n := ⟨_, rfl⟩
 have hns : s.length = n := by rw [← hn, ← hS, bts_size]
 have HL : Hid (lst S = s) := hid (by rw [← hS, lst_bts])
 have HN := hid hns
 rw [hS]
 have hn63 : Hid (n ≤ 9223372036854775807) := hid (by omega)
 have HU0 : Hid (0 ≤ u ∧ u ≤ 18446744073709551615) := hid ⟨h0, h1⟩
 clear hS hns hs h0 h1
 go_enter Tryz.func56, Tryz.ntmps56
 go_wp2_with fail
 go_loopg [0, 8] n (fun g x y wr => ∃ (j : Nat) (U : Int), j + g = n ∧ x = .int .u64 U ∧ y = .int .i64 (j : Int) ∧ Hid (U = sumI u (s.take j)) ∧ Hid (w = wr))
 case atStart => exact ⟨0, u, by omega, rfl, rfl, hid rfl, hid rfl⟩
 case round =>
  obtain ⟨j, U, hj, rfl, rfl, HU, HW⟩ := hrel
  obtain rfl := HW.out
  have HJ := hid hj
  by_cases hjn : j < n
  ·obtain ⟨c, hc⟩ : ∃ c, s[j]? = some c := ⟨_, List.getElem?_eq_getElem (by rw [HN.out]; exact hjn)⟩
   obtain ⟨z, hz⟩ : ∃ z : Int, (c.toNat : Int) = z := ⟨_, rfl⟩
   have hg : ∀ h : j < S.size, ((S[j]'h).toNat : Int) = z := fun h => by rw [lst_at (by rw [HL.out]; exact hc) h]; exact hz
   have hz0 : 0 ≤ z := by omega
   have hj1 : (0 : Int) ≤ (j : Int) := by omega
   have hj2 : (j : Int) < (n : Int) := by omega
   have hw : IntKind.i64.wrap ((j : Int) + 1) = ((j + 1 : Nat) : Int) := IntWalk.i64_in _ (by have := hn63.out; omega)
   have hwz : IntKind.u64.wrap z = z := IntWalk.u64_in _ (by have := c.toNat_lt; omega)
   have HTM := hid (times_any (IntKind.u64.wrap (U + z)) 11400714785074694791 w (u64_lo _) (u64_hi _) (by decide) (by decide))
   have HS : Hid (bits .xor .u64 (IntKind.u64.wrap (IntKind.u64.wrap (U + z) * 11400714785074694791)) (IntKind.u64.wrap (IntKind.u64.wrap (U + z) * 11400714785074694791) / 2147483648) = sumI u (s.take (j + 1))) := hid (by rw [sum_take hc, ← HU.out, ← hz]; rfl)
   obtain ⟨V, hV⟩ : ∃ V, IntKind.u64.wrap (IntKind.u64.wrap (U + z) * 11400714785074694791) = V := ⟨_, rfl⟩
   have hV0 : 0 ≤ V := by rw [← hV]; exact u64_lo _
   have HV1 : Hid (V ≤ 18446744073709551615) := hid (by rw [← hV]; exact u64_hi _)
   have hq : V.tdiv 2147483648 = V / 2147483648 := Int.tdiv_eq_ediv_of_nonneg hV0
   have hqw : IntKind.u64.wrap (V / 2147483648) = V / 2147483648 := IntWalk.u64_in _ (by have := HV1.out; omega)
   rw [hV] at HTM HS
   clear hc hz hj hV
   go_wp2_with fail
   refine Calls.mono HTM.out ?_
   rintro e w1 ⟨rfl, hw1⟩
   subst hw1
   go_wp2_with fail
   go_roundg (n - (j + 1))
   case measure => (have := HJ.out; omega)
   case rel => exact ⟨j + 1, _, by have := HJ.out; omega, rfl, by simp, HS, hid rfl⟩
  ·have hj2 : ¬ (j : Int) < (n : Int) := by omega
   have HF : Hid (U = sumI u s) := hid (by rw [HU.out, List.take_of_length_le (by have := HN.out; omega)])
   clear hj hjn
   go_wp2_with fail
   go_ret
   exact ⟨by rw [← HF.out]; rfl, rfl⟩
end Go.Proofs.YtkemlckmfgacdaaGreatDoor
