/- Contract: event.Encode. -/
import Derived.Test.YtkemlckmfgacdaaGreatDoorJnP11
import Derived.Test.YtkemlckmfgacdaaGreatDoorJnP13
import Derived.Test.YtkemlckmfgacdaaGreatDoorJnP20
import Derived.Test.YtkemlckmfgacdaaGreatDoorJnP18
import Derived.Test.YtkemlckmfgacdaaGreatDoorJnP14
namespace Go.Proofs.YtkemlckmfgacdaaGreatDoor
set_option maxRecDepth 20000
set_option maxHeartbeats 64000000
open Go.ChangeShapes Go.WideShapes Go.ChangeAt Go.RowKit
set_option linter.unusedVariables false
set_option linter.unusedSimpArgs false
open Tp Jm Ev
theorem text_le {j : Jb} (h : j.fault = 0) : j.text.length ≤ 3000 := by
 obtain ⟨h1, h2, h3, h4, h5⟩ := text_sizes h
 unfold Jb.text
 simp only [List.length_append, List.length_cons]
 omega
theorem fault_odd {x : Evt} (h : x.fault = 0) : x.odd = false := by
 unfold Evt.fault at h
 cases ho : x.odd with
 | false => rfl
 | true => rw [ho, if_pos rfl] at h; cases h
theorem fault_kind {x : Evt} (h : x.fault = 0) : x.kind = 1 ∨ x.kind = 2 ∨ x.kind = 3 ∨ x.kind = 4 ∨ x.kind = 5 := by
 have h2 := fault_odd h
 obtain ⟨k, j, N, I, O⟩ := x
 rw [odd_bools] at h2
 simp only [Bool.or_eq_false_iff, decide_eq_false_iff_not] at h2
 simp only
 omega
theorem fault_job {x : Evt} (h : x.fault = 0) (hk : x.kind = 1) : x.job.fault = 0 := by
 have h2 := fault_odd h
 unfold Evt.fault at h
 rw [h2, if_neg (by simp), if_pos hk] at h
 exact h
theorem fault_range {x : Evt} (h : x.fault = 0) (hk : x.kind ≠ 1) : (0 ≤ x.n ∧ x.n ≤ 1000000000) ∧ (0 ≤ x.id ∧ x.id ≤ 65535) := by
 have h2 := fault_odd h
 unfold Evt.fault at h
 rw [h2, if_neg (by simp), if_neg hk] at h
 split at h
 ·cases h
 ·omega
def EncQ (w : World) (s : Bs) (f : Int) (e : Ending) (w' : World) : Prop := ∃ v', e = .returned (.tuple #[v', .int .i64 f]) ∧ OwnB w' w.heap.size v' s ∧ Below w.heap.size w w'
def Ev.Evt.enc (x : Evt) : Bs := if x.fault = 0 then x.bytes else []
theorem encode_any (x : Evt) (v : Value) (w : World) (hs : x.job.ask.size ≤ 1000000000) (he : Env w) (hv : EvV w x v) : Calls Tryz.prog 13 #[v] w (EncQ w x.enc x.fault) := by
 have HC0 := hid (fun W (h : Below w.heap.size w W) => evCheck_any x _ W hs (hv.below h))
 obtain ⟨x0, x1, x2, x3, xd, xl, xc, aa, ac, rfl, hp⟩ := hv
 have hjv := hp.toV
 obtain ⟨F, hF⟩ : ∃ F, x.fault = F := ⟨_, rfl⟩
 obtain ⟨E, hE⟩ : ∃ E, x.enc = E := ⟨_, rfl⟩
 have HK : Hid (F = 0 → (x.kind = 1 ∨ x.kind = 2 ∨ x.kind = 3 ∨ x.kind = 4 ∨ x.kind = 5)) := hid (fun h => fault_kind (hF.trans h))
 have HJF : Hid (F = 0 → x.kind = 1 → x.job.fault = 0) := hid (fun h => fault_job (hF.trans h))
 have HRG : Hid (F = 0 → x.kind ≠ 1 → (0 ≤ x.n ∧ x.n ≤ 1000000000) ∧ (0 ≤ x.id ∧ x.id ≤ 65535)) := hid (fun h => fault_range (hF.trans h))
 have HE0 : Hid (F ≠ 0 → E = []) := hid (fun h => by rw [← hE]; unfold Evt.enc; rw [if_neg (by rw [hF]; exact h)])
 have HE1 : Hid (F = 0 → E = UInt8.ofNat x.kind.toNat :: x.rest) := hid (fun h => by rw [← hE]; unfold Evt.enc; rw [if_pos (by rw [hF]; exact h)]; rfl)
 rw [hF] at HC0
 rw [hF, hE]
 have HTX := hid (fun W (h : Below w.heap.size w W) => jobText_any x.job _ W hs (he.below h lr) (hjv.below h))
 obtain ⟨k, j, N, I, O⟩ := x
 unfold evVal at HC0 ⊢
 unfold jobVal at HTX
 simp only at HC0 HTX HK HJF HRG HE1 ⊢
 obtain ⟨T, hT⟩ : ∃ T, j.text = T := ⟨_, rfl⟩
 obtain ⟨jf, hjf⟩ : ∃ f, j.fault = f := ⟨_, rfl⟩
 have HTL : Hid (jf = 0 → T.length ≤ 3000) := hid (fun h => by rw [← hT]; exact text_le (hjf.trans h))
 have HTR : Hid (jf = 0 → jobTxt j = bts T) := hid (fun h => by unfold jobTxt; rw [if_pos (hjf.trans h), hT])
 have HRS : Hid (Evt.rest ⟨k, j, N, I, O⟩ = if k = 1 then T else if k = 2 then be N.toNat 4 else if k = 4 then be I.toNat 2 ++ [bit O] else if k = 5 then be I.toNat 2 else []) := hid (by rw [← hT]; rfl)
 obtain ⟨R, hR⟩ : ∃ R, Evt.rest ⟨k, j, N, I, O⟩ = R := ⟨_, rfl⟩
 rw [hR] at HE1 HRS
 rw [hjf] at HTX HJF
 obtain ⟨TX, hTX⟩ : ∃ t, jobTxt j = t := ⟨_, rfl⟩
 rw [hTX] at HTX HTR
 obtain ⟨u, P, a, b, c, x, l⟩ := j
 simp only at HC0 HTX ⊢
 obtain ⟨U, hU⟩ : ∃ U, bts u = U := ⟨_, rfl⟩
 obtain ⟨n, hn⟩ : ∃ n, l.length = n := ⟨_, rfl⟩
 rw [hU, hn] at HC0 HTX ⊢
 obtain ⟨B, hB⟩ : ∃ B, B = w.heap.size := ⟨_, rfl⟩
 obtain ⟨W0, hW0⟩ : ∃ W, W = w.alloc (.cells #[.int .i64 k, .string U, .int .i64 P, .int .i64 a, .int .i64 b, .int .i64 c, .int .i64 x0, .string x1, .string x2, .int .i64 x3, .slice xd xl xc, .slice aa n ac, .int .i64 N, .int .i64 I, .bool O] 40) := ⟨_, rfl⟩
 have hbW0 : Below w.heap.size w W0 := be0 hW0
 have HX : Hid (BoxV B [.int .i64 k, .string U, .int .i64 P, .int .i64 a, .int .i64 b, .int .i64 c, .int .i64 x0, .string x1, .string x2, .int .i64 x3, .slice xd xl xc, .slice aa n ac, .int .i64 N, .int .i64 I, .bool O] W0) := hid (by rw [hW0]; exact BoxV.top _ hB)
 have HB0 := hid hbW0
 have HBW : Hid (B = w.heap.size) := hid hB
 clear hbW0 hU hn hF hE hT hjf hR hTX hp hs hjv he
 go_enter Tryz.func13, Tryz.ntmps13
 go_upto_region 1 with fail
 rw [← hW0, ← hB]
 clear hW0 hB
 obtain ⟨b0, b1, b2, b3, b4, b5, b6, b7, b8, b9, b10, b11, b12, b13, b14⟩ := HX.out.c15
 have hBl := HX.out.lt
 go_wp2_with fail
 refine Calls.mono (HC0.out W0 HB0.out) ?_
 rintro e W1 ⟨rfl, hbn⟩
 have HB1 : Hid (Below w.heap.size w W1) := hid (HB0.out.trans (hbn.mono HB0.out.size))
 have HX1 := hid (HX.out.step hbn)
 clear hbn
 clear hBl b0 b1 b2 b3 b4 b5 b6 b7 b8 b9 b10 b11 b12 b13 b14
 obtain ⟨b0, b1, b2, b3, b4, b5, b6, b7, b8, b9, b10, b11, b12, b13, b14⟩ := HX1.out.c15
 have hBl := HX1.out.lt
 by_cases hf : F = 0
 ·subst hf
  have HJ2 := hid (HJF.out rfl)
  have HR2 := hid (HRG.out rfl)
  have HE2 := hid (HE1.out rfl)
  obtain ⟨H, hH⟩ : ∃ H, H = W1.heap.size := ⟨_, rfl⟩
  have HH : Hid (w.heap.size ≤ H) := hid (by rw [hH]; exact HB1.out.size)
  have HBH : Hid (B < H) := hid (by rw [hH]; exact HX1.out.lt)
  have HHE := hid hH
  rcases HK.out rfl with rfl | rfl | rfl | rfl | rfl
  ·have HRK : Hid (R = T) := hid (by rw [HRS.out]; simp)
   obtain ⟨W2, hW2⟩ : ∃ W, W = W1.alloc (.cells #[.int .u8 1] 5) := ⟨_, rfl⟩
   have hb2 : Below W1.heap.size W1 W2 := be0 hW2
   have HB2 : Hid (Below w.heap.size w W2) := hid (HB1.out.trans (hb2.mono HB1.out.size))
   have HX2 := hid (HX1.out.step hb2)
   have HO2 : Hid (OwnB W2 H (.slice (some ⟨H, 0, none⟩) 1 1) [1]) := hid (by rw [hW2]; exact OwnB.one hH.symm lr 1)
   have HH2 : Hid (H ≤ W2.heap.size) := hid (by rw [hH]; exact hb2.size)
   clear hb2
   go_upto_region 5 with fail
   rw [← hW2, ← hH]
   clear hW2 hH
   clear hBl b0 b1 b2 b3 b4 b5 b6 b7 b8 b9 b10 b11 b12 b13 b14
   obtain ⟨b0, b1, b2, b3, b4, b5, b6, b7, b8, b9, b10, b11, b12, b13, b14⟩ := HX2.out.c15
   have hBl := HX2.out.lt
   have hj0 := HJ2.out (by trivial)
   have HT1 := hid (HTL.out hj0)
   have HT2 := hid (HTR.out hj0)
   obtain rfl := hj0
   go_wp2_with fail
   refine Calls.mono (HTX.out W2 HB2.out) ?_
   rintro e W3 ⟨rfl, hbn⟩
   have HB3 : Hid (Below w.heap.size w W3) := hid (HB2.out.trans (hbn.mono HB2.out.size))
   have HO3 := hid (HO2.out.below hbn)
   have HX3 := hid (HX2.out.step hbn)
   have HH3 : Hid (H ≤ W3.heap.size) := hid (Nat.le_trans HH2.out hbn.size)
   have HSR : Hid (Src Tryz.prog 1 9 (.string TX) T.length (u8s T) W3) := hid (by rw [HT2.out]; exact src_text W3 T rfl)
   clear hbn
   clear hBl b0 b1 b2 b3 b4 b5 b6 b7 b8 b9 b10 b11 b12 b13 b14
   obtain ⟨b0, b1, b2, b3, b4, b5, b6, b7, b8, b9, b10, b11, b12, b13, b14⟩ := HX3.out.c15
   have hBl := HX3.out.lt
   go_wp2_with (at_builtin; refine wpList_append_b (by rfl) (.tmp 27) (.tmp 28) 9 (by rfl) (H := H) (S := [1]) (v := .slice (some ⟨H, 0, none⟩) 1 1) (by rfl) HO3.out (by rfl) HSR.out rfl (by have := HT1.out; simp; omega) HH3.out ?_; intro v4 W4 hown hbw; have HO4 := hid hown; have HB4 : Hid (Below w.heap.size w W4) := hid (HB3.out.trans (hbw.mono HH.out)); clear hown hbw; clear b0 b1 b2 b3 b4 b5 b6 b7 b8 b9 b10 b11 b12 b13 b14)
   go_wp2_with fail
   go_ret2
   refine ⟨v4, rfl, ?_, HB4.out⟩
   rw [HE2.out, HRK.out]
   exact HO4.out.low HH.out
  ·have HRK : Hid (R = be N.toNat 4) := hid (by rw [HRS.out]; simp)
   obtain ⟨W2, hW2⟩ : ∃ W, W = W1.alloc (.cells #[.int .u8 2] 5) := ⟨_, rfl⟩
   have hb2 : Below W1.heap.size W1 W2 := be0 hW2
   have HB2 : Hid (Below w.heap.size w W2) := hid (HB1.out.trans (hb2.mono HB1.out.size))
   have HX2 := hid (HX1.out.step hb2)
   have HO2 : Hid (OwnB W2 H (.slice (some ⟨H, 0, none⟩) 1 1) [2]) := hid (by rw [hW2]; exact OwnB.one hH.symm lr 2)
   have HH2 : Hid (H ≤ W2.heap.size) := hid (by rw [hH]; exact hb2.size)
   clear hb2
   go_upto_region 5 with fail
   rw [← hW2, ← hH]
   clear hW2 hH
   clear hBl b0 b1 b2 b3 b4 b5 b6 b7 b8 b9 b10 b11 b12 b13 b14
   obtain ⟨b0, b1, b2, b3, b4, b5, b6, b7, b8, b9, b10, b11, b12, b13, b14⟩ := HX2.out.c15
   have hBl := HX2.out.lt
   obtain ⟨M, hM⟩ : ∃ M : Nat, N = (M : Int) := ⟨N.toNat, by have := HR2.out (by decide); omega⟩
   have HM : Hid (M ≤ 1000000000) := hid (by have := HR2.out (by decide); omega)
   obtain rfl := hM
   have HRM : Hid (R = be M 4) := hid (by rw [HRK.out, Int.toNat_natCast])
   have HNU := hid (number_any M 4 (.slice (some ⟨H, 0, none⟩) 1 1) [2] H W2 (by decide) (by have := HM.out; omega) (by simp) HO2.out HH2.out)
   go_wp2_with fail
   refine Calls.mono HNU.out ?_
   rintro e W3 ⟨v3, rfl, hown, hbw⟩
   have HO3 := hid hown
   have HB3 : Hid (Below w.heap.size w W3) := hid (HB2.out.trans (hbw.mono HH.out))
   have HX3 := hid (HX2.out.below hbw HBH.out)
   have HH3 : Hid (H ≤ W3.heap.size) := hid (Nat.le_trans HH2.out hbw.size)
   clear hown hbw
   clear hBl b0 b1 b2 b3 b4 b5 b6 b7 b8 b9 b10 b11 b12 b13 b14
   obtain ⟨b0, b1, b2, b3, b4, b5, b6, b7, b8, b9, b10, b11, b12, b13, b14⟩ := HX3.out.c15
   have hBl := HX3.out.lt
   go_wp2_with fail
   go_ret2
   refine ⟨v3, rfl, ?_, HB3.out⟩
   rw [HE2.out, HRM.out]
   exact HO3.out.low HH.out
  ·have HRK : Hid (R = []) := hid (by rw [HRS.out]; simp)
   obtain ⟨W2, hW2⟩ : ∃ W, W = W1.alloc (.cells #[.int .u8 3] 5) := ⟨_, rfl⟩
   have hb2 : Below W1.heap.size W1 W2 := be0 hW2
   have HB2 : Hid (Below w.heap.size w W2) := hid (HB1.out.trans (hb2.mono HB1.out.size))
   have HX2 := hid (HX1.out.step hb2)
   have HO2 : Hid (OwnB W2 H (.slice (some ⟨H, 0, none⟩) 1 1) [3]) := hid (by rw [hW2]; exact OwnB.one hH.symm lr 3)
   have HH2 : Hid (H ≤ W2.heap.size) := hid (by rw [hH]; exact hb2.size)
   clear hb2
   go_upto_region 5 with fail
   rw [← hW2, ← hH]
   clear hW2 hH
   clear hBl b0 b1 b2 b3 b4 b5 b6 b7 b8 b9 b10 b11 b12 b13 b14
   obtain ⟨b0, b1, b2, b3, b4, b5, b6, b7, b8, b9, b10, b11, b12, b13, b14⟩ := HX2.out.c15
   have hBl := HX2.out.lt
   go_wp2_with fail
   go_ret2
   refine ⟨_, rfl, ?_, HB2.out⟩
   rw [HE2.out, HRK.out]
   exact HO2.out.low HH.out
  ·have HRK : Hid (R = be I.toNat 2 ++ [bit O]) := hid (by rw [HRS.out]; simp)
   obtain ⟨W2, hW2⟩ : ∃ W, W = W1.alloc (.cells #[.int .u8 4] 5) := ⟨_, rfl⟩
   have hb2 : Below W1.heap.size W1 W2 := be0 hW2
   have HB2 : Hid (Below w.heap.size w W2) := hid (HB1.out.trans (hb2.mono HB1.out.size))
   have HX2 := hid (HX1.out.step hb2)
   have HO2 : Hid (OwnB W2 H (.slice (some ⟨H, 0, none⟩) 1 1) [4]) := hid (by rw [hW2]; exact OwnB.one hH.symm lr 4)
   have HH2 : Hid (H ≤ W2.heap.size) := hid (by rw [hH]; exact hb2.size)
   clear hb2
   go_upto_region 5 with fail
   rw [← hW2, ← hH]
   clear hW2 hH
   clear hBl b0 b1 b2 b3 b4 b5 b6 b7 b8 b9 b10 b11 b12 b13 b14
   obtain ⟨b0, b1, b2, b3, b4, b5, b6, b7, b8, b9, b10, b11, b12, b13, b14⟩ := HX2.out.c15
   have hBl := HX2.out.lt
   obtain ⟨M, hM⟩ : ∃ M : Nat, I = (M : Int) := ⟨I.toNat, by have := HR2.out (by decide); omega⟩
   have HM : Hid (M ≤ 65535) := hid (by have := HR2.out (by decide); omega)
   obtain rfl := hM
   have HRM : Hid (R = be M 2 ++ [bit O]) := hid (by rw [HRK.out, Int.toNat_natCast])
   have HNU := hid (number_any M 2 (.slice (some ⟨H, 0, none⟩) 1 1) [4] H W2 (by decide) (by have := HM.out; omega) (by simp) HO2.out HH2.out)
   go_wp2_with fail
   refine Calls.mono HNU.out ?_
   rintro e W3 ⟨v3, rfl, hown, hbw⟩
   have HO3 := hid hown
   have HB3 : Hid (Below w.heap.size w W3) := hid (HB2.out.trans (hbw.mono HH.out))
   have HX3 := hid (HX2.out.below hbw HBH.out)
   have HH3 : Hid (H ≤ W3.heap.size) := hid (Nat.le_trans HH2.out hbw.size)
   clear hown hbw
   clear hBl b0 b1 b2 b3 b4 b5 b6 b7 b8 b9 b10 b11 b12 b13 b14
   obtain ⟨b0, b1, b2, b3, b4, b5, b6, b7, b8, b9, b10, b11, b12, b13, b14⟩ := HX3.out.c15
   have hBl := HX3.out.lt
   have HL3 : Hid (([4] ++ be M 2 : Bs).length + 1 ≤ 1000000000000) := hid (by simp [be_len])
   cases O with
   | true =>
    go_wp2_with (at_builtin; refine wpList_append_b (by rfl) (.tmp 44) (.tmp 45) 41 (by rfl) (H := H) (S := [4] ++ be M 2) (v := v3) (by rfl) (HO3.out.alloc _) (by rfl) (src_one rfl 1) rfl HL3.out (by simp; exact Nat.le_succ_of_le HH3.out) ?_; intro v4 W4 hown hbw; have HO4 := hid hown; have HB4 : Hid (Below w.heap.size w W4) := hid ((HB3.out.alloc (Nat.le_trans HH.out HH3.out) _).trans (hbw.mono HH.out)); clear hown hbw; clear b0 b1 b2 b3 b4 b5 b6 b7 b8 b9 b10 b11 b12 b13 b14)
    go_wp2_with fail
    go_ret2
    refine ⟨v4, rfl, ?_, HB4.out⟩
    rw [HE2.out, HRM.out]
    exact HO4.out.low HH.out
   | false =>
    go_wp2_with (at_builtin; refine wpList_append_b (by rfl) (.tmp 47) (.tmp 48) 41 (by rfl) (H := H) (S := [4] ++ be M 2) (v := v3) (by rfl) (HO3.out.alloc _) (by rfl) (src_one rfl 0) rfl HL3.out (by simp; exact Nat.le_succ_of_le HH3.out) ?_; intro v4 W4 hown hbw; have HO4 := hid hown; have HB4 : Hid (Below w.heap.size w W4) := hid ((HB3.out.alloc (Nat.le_trans HH.out HH3.out) _).trans (hbw.mono HH.out)); clear hown hbw; clear b0 b1 b2 b3 b4 b5 b6 b7 b8 b9 b10 b11 b12 b13 b14)
    go_wp2_with fail
    go_ret2
    refine ⟨v4, rfl, ?_, HB4.out⟩
    rw [HE2.out, HRM.out]
    exact HO4.out.low HH.out
  ·have HRK : Hid (R = be I.toNat 2) := hid (by rw [HRS.out]; simp)
   obtain ⟨W2, hW2⟩ : ∃ W, W = W1.alloc (.cells #[.int .u8 5] 5) := ⟨_, rfl⟩
   have hb2 : Below W1.heap.size W1 W2 := be0 hW2
   have HB2 : Hid (Below w.heap.size w W2) := hid (HB1.out.trans (hb2.mono HB1.out.size))
   have HX2 := hid (HX1.out.step hb2)
   have HO2 : Hid (OwnB W2 H (.slice (some ⟨H, 0, none⟩) 1 1) [5]) := hid (by rw [hW2]; exact OwnB.one hH.symm lr 5)
   have HH2 : Hid (H ≤ W2.heap.size) := hid (by rw [hH]; exact hb2.size)
   clear hb2
   go_upto_region 5 with fail
   rw [← hW2, ← hH]
   clear hW2 hH
   clear hBl b0 b1 b2 b3 b4 b5 b6 b7 b8 b9 b10 b11 b12 b13 b14
   obtain ⟨b0, b1, b2, b3, b4, b5, b6, b7, b8, b9, b10, b11, b12, b13, b14⟩ := HX2.out.c15
   have hBl := HX2.out.lt
   obtain ⟨M, hM⟩ : ∃ M : Nat, I = (M : Int) := ⟨I.toNat, by have := HR2.out (by decide); omega⟩
   have HM : Hid (M ≤ 65535) := hid (by have := HR2.out (by decide); omega)
   obtain rfl := hM
   have HRM : Hid (R = be M 2) := hid (by rw [HRK.out, Int.toNat_natCast])
   have HNU := hid (number_any M 2 (.slice (some ⟨H, 0, none⟩) 1 1) [5] H W2 (by decide) (by have := HM.out; omega) (by simp) HO2.out HH2.out)
   go_wp2_with fail
   refine Calls.mono HNU.out ?_
   rintro e W3 ⟨v3, rfl, hown, hbw⟩
   have HO3 := hid hown
   have HB3 : Hid (Below w.heap.size w W3) := hid (HB2.out.trans (hbw.mono HH.out))
   have HX3 := hid (HX2.out.below hbw HBH.out)
   have HH3 : Hid (H ≤ W3.heap.size) := hid (Nat.le_trans HH2.out hbw.size)
   clear hown hbw
   clear hBl b0 b1 b2 b3 b4 b5 b6 b7 b8 b9 b10 b11 b12 b13 b14
   obtain ⟨b0, b1, b2, b3, b4, b5, b6, b7, b8, b9, b10, b11, b12, b13, b14⟩ := HX3.out.c15
   have hBl := HX3.out.lt
   go_wp2_with fail
   go_ret2
   refine ⟨v3, rfl, ?_, HB3.out⟩
   rw [HE2.out, HRM.out]
   exact HO3.out.low HH.out
 ·have h1 : (F != 0) = true := by simpa using hf
  have HE3 := hid (HE0.out hf)
  clear hf
  go_wp2_with fail
  go_ret2
  refine ⟨_, rfl, ?_, HB1.out⟩
  rw [HE3.out]
  exact OwnB.nil _ _
end Go.Proofs.YtkemlckmfgacdaaGreatDoor
namespace Go.Proofs.YtkemlckmfgacdaaGreatDoor
set_option maxRecDepth 20000
set_option maxHeartbeats 64000000
open Go.ChangeShapes Go.WideShapes Go.ChangeAt Go.RowKit
set_option linter.unusedVariables false
open Tp
theorem refTextA (x : Ask) (v : Value) (w : World) (he : x.err = 0) (h3 : x.kind ≤ 3) (hx : AskV w x v) : Calls Tryz.prog 43 #[v] w fun e w' => e = .returned (.string (bts (Ar.txt x))) ∧ Below w.heap.size w w' := by
 cases x with
 | mk k ka va nu l =>
 rw [AskV] at hx
 obtain ⟨ad, n, cap, rfl, hrest⟩ := hx
 clear hrest
 obtain ⟨hb0, hes⟩ := Ask.err_zero he
 obtain ⟨hk1, hk6, hlen, hn0, hnu, hnu2, _, _, hu, hl1, hl2⟩ := Ask.bad_zero hb0
 have h3 : k ≤ 3 := h3
 clear hb0 hes hlen he
 have hka : ka.length ≤ 20 := by
  by_cases h : k = 3
  ·exact unit_short (hu h)
  ·exact lab_short (hl1 (by omega))
 obtain ⟨V, hV⟩ : ∃ V, (Ar.txt (Ask.mk k ka va nu l)) = V := ⟨_, rfl⟩
 have HV := hid hV
 rw [hV]
 clear hV
 obtain ⟨a1, ha1⟩ : ∃ a, bts ka = a := ⟨_, rfl⟩
 obtain ⟨a2, ha2⟩ : ∃ a, bts va = a := ⟨_, rfl⟩
 have HA1 := hid ha1
 have HA2 := hid ha2
 have hs1 : a1.size ≤ 20 := by rw [← ha1, bts_size]; exact hka
 rw [ha1, ha2]
 have hb9 : Below w.heap.size w (w.alloc (.cells #[.int .i64 k, .string a1, .string a2, .int .i64 nu, .slice ad n cap] 26)) := (Below.refl _ _).alloc lr _
 have HB9 := hid hb9
 by_cases h1 : k = 1
 ·subst h1
  have HR : Hid ((⟨#[63]⟩ : ByteArray) ++ a1 = bts V) := hid (by rw [← HV.out, ← HA1.out, add1]; rfl)
  have h63 : (⟨#[63]⟩ : ByteArray).size = 1 := rfl
  clear ha1 ha2 hu hl1 hl2 hb9 hk1 hk6 h3 hn0 hnu hnu2
  go_enter Tryz.func43, Tryz.ntmps43
  go_wp2_with fail
  go_ret
  exact ⟨by rw [← HR.out]; rfl, HB9.out⟩
 by_cases h2 : k = 2
 ·have hs2 : a2.size ≤ 20 := by rw [← ha2, bts_size]; exact lab_short (hl2 h2)
  subst h2
  have HR : Hid (a1 ++ (⟨#[61]⟩ : ByteArray) ++ a2 = bts V) := hid (by rw [← HV.out, ← HA1.out, ← HA2.out, add2]; rfl)
  obtain ⟨p1, hp1⟩ : ∃ p, a1 ++ (⟨#[61]⟩ : ByteArray) = p := ⟨_, rfl⟩
  have h61 : (⟨#[61]⟩ : ByteArray).size = 1 := rfl
  have hsp : p1.size ≤ 21 := by rw [← hp1, ByteArray.size_append]; omega
  rw [hp1] at HR
  clear ha1 ha2 hu hl1 hl2 hb9 hk1 hk6 h3 hn0 hnu hnu2
  go_enter Tryz.func43, Tryz.ntmps43
  go_wp2_with fail
  go_ret
  exact ⟨by rw [← HR.out]; rfl, HB9.out⟩
 ·obtain rfl : k = 3 := by omega
  obtain ⟨u, rfl⟩ : ∃ u : Nat, nu = (u : Int) := ⟨nu.toNat, by omega⟩
  have hu9 : u ≤ 1099511627776 := by omega
  obtain ⟨D, hD⟩ : ∃ D, bts (Nt.dec u) = D := ⟨_, rfl⟩
  have hsd : D.size ≤ 19 := by rw [← hD, bts_size]; exact Nt.dec_len 18 u (by omega)
  have HR : Hid (a1 ++ (⟨#[62, 61]⟩ : ByteArray) ++ D = bts V) := hid (by rw [← HV.out, ← HA1.out, ← hD, add3]; rfl)
  obtain ⟨p1, hp1⟩ : ∃ p, a1 ++ (⟨#[62, 61]⟩ : ByteArray) = p := ⟨_, rfl⟩
  have h62 : (⟨#[62, 61]⟩ : ByteArray).size = 2 := rfl
  have hsp : p1.size ≤ 22 := by rw [← hp1, ByteArray.size_append]; omega
  rw [hp1] at HR
  have hnn1 : ¬ 9223372036854775807 < a1.size + 2 := by omega
  have hnn2 : ¬ 9223372036854775807 < p1.size + D.size := by omega
  obtain ⟨W0, hW0⟩ : ∃ W, W = w.alloc (.cells #[.int .i64 3, .string a1, .string a2, .int .i64 (u : Int), .slice ad n cap] 26) := ⟨_, rfl⟩
  rw [← hW0] at HB9
  obtain ⟨cx, hcx⟩ : ∃ c, c = w.heap.size := ⟨_, rfl⟩
  have d1 : W0.cell? ⟨cx, 1, none⟩ = some (.string a1) := by rw [hcx, hW0]; simp
  have d3 : W0.cell? ⟨cx, 3, none⟩ = some (.int .i64 (u : Int)) := by rw [hcx, hW0]; simp
  have d0 : W0.cell? ⟨cx, 0, none⟩ = some (.int .i64 3) := by rw [hcx, hW0]; simp
  have hc0 : cx < W0.heap.size := by rw [hcx, hW0]; simp
  have HC : Hid (∀ W, Below W0.heap.size W0 W → Calls Tryz.prog 41 #[.int .i64 (u : Int)] W fun e w' => e = .returned (.string D) ∧ Below W.heap.size W w') := hid (fun W hW => by have h := DecimalW_any (u : Int) W (by omega) (by omega); rw [show Nt.decI (u : Int) = Nt.dec u from by unfold Nt.decI; rw [if_neg (by omega), Int.toNat_natCast], hD] at h; exact h)
  clear ha1 ha2 hu hl1 hl2 hb9 hk1 hk6 h3 hn0 hnu hnu2 hD h1 h2
  have d1d : W0.drew.cell? ⟨cx, 1, none⟩ = some (.string a1) := d1
  have d3d : W0.drew.cell? ⟨cx, 3, none⟩ = some (.int .i64 (u : Int)) := d3
  go_enter Tryz.func43, Tryz.ntmps43
  go_upto_region 7 with fail
  rw [← hW0, ← hcx]
  clear hW0 hcx
  first | (go_region_held3 (fun W => W.cell? ⟨cx, 1, none⟩ = some (.string a1) ∧ W.cell? ⟨cx, 3, none⟩ = some (.int .i64 (u : Int))) (first | with_reducible exact ⟨d1, d3⟩ | with_reducible exact ⟨d1d, d3d⟩ | with_reducible exact ⟨d1a, d3a⟩ | go_keep) (first | (go_at_call 41; refine Calls.mono (HC.out _ (by first | exact Below.refl _ _ | go_grown)) ?_; rintro e w1 ⟨rfl, hb1⟩; have d1a := (hb1.cell (p := ⟨cx, 1, none⟩) hc0).trans d1; have d3a := (hb1.cell (p := ⟨cx, 3, none⟩) hc0).trans d3))) | fail
  all_goals
   go_wp2_with fail
   go_ret
   exact ⟨by rw [← HR.out]; rfl, HB9.out.trans (((show Below W0.heap.size W0 W0.drew from by go_grown).trans hb1).mono HB9.out.size)⟩
end Go.Proofs.YtkemlckmfgacdaaGreatDoor
