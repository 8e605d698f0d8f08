/- Contract: event.Decode. -/
import Derived.Test.YtkemlckmfgacdaaGreatDoorEvP39
import Derived.Test.YtkemlckmfgacdaaGreatDoorEvP40
import Derived.Test.YtkemlckmfgacdaaGreatDoorEvP41
import Derived.Deep.Light
import Derived.Test.YtkemlckmfgacdaaGreatDoorEvP21
import Derived.Test.YtkemlckmfgacdaaGreatDoorEvP23
import Derived.Test.YtkemlckmfgacdaaGreatDoorEvP38
import Derived.Deep.RegionWith
import Derived.Deep.RegionHeld3
namespace Go.Proofs.YtkemlckmfgacdaaGreatDoor
open Go.ChangeShapes Go.WideShapes Go.ChangeAt Go.RowKit
set_option linter.unusedVariables false
set_option linter.unusedSimpArgs false
open Tp Jm Ev
theorem decode_any (s : Bs) (a : Option Addr) (n cap : Nat) (w : World) (hn : s.length = n) (hcap : n ≤ cap) (hmax : cap ≤ 9223372036854775807) (he : Env w) (hs : BytA w a s) : Calls Tryz.prog 14 #[.slice a n cap] w (DecQ w (if 3001 < s.length then none else rd s) (if 3001 < s.length then 2 else 3)) := by
  by_cases hl : 3001 < s.length
  · rw [if_pos hl, if_pos hl]; exact decode_long s a n cap w hn (by omega)
  rw [if_neg hl, if_neg hl]
  cases s with
  | nil =>
    obtain rfl : n = 0 := hn.symm
    exact decode_none a cap w
  | cons k r =>
    obtain rfl : n = r.length + 1 := hn.symm
    have hl2 : r.length ≤ 3000 := by simp at hl; omega
    by_cases h1 : k.toNat = 1
    · cases hO1 : rdA r with
      | none => exact decode_1n k r a _ cap w rfl hl2 hcap hmax he hs h1 hO1
      | some j => exact decode_1y k r a _ cap w rfl hl2 hcap hmax he hs h1 j hO1
    by_cases h2 : k.toNat = 2
    · exact decode_2 k r a _ cap w rfl hl2 hcap hmax he hs h2
    by_cases h4 : k.toNat = 4
    · by_cases hr : r.length = 3
      · exact decode_4a k r a _ cap w rfl hl2 hcap hmax he hs ⟨h4, hr⟩
      · exact decode_4b k r a _ cap w rfl hl2 hcap hmax he hs ⟨h4, hr⟩
    by_cases h5 : k.toNat = 5
    · exact decode_5 k r a _ cap w rfl hl2 hcap hmax he hs h5
    exact decode_0 k r a _ cap w rfl hl2 hcap hmax he hs ⟨h1, h2, h4, h5⟩
end Go.Proofs.YtkemlckmfgacdaaGreatDoor
namespace Go.Proofs.YtkemlckmfgacdaaGreatDoor
open Go.ChangeShapes Go.WideShapes Go.ChangeAt Go.RowKit
set_option linter.unusedVariables false
set_option linter.unusedSimpArgs false
open Tp Jm Ev
def BytQ (w : World) (s : Bs) (e : Ending) (w' : World) : Prop := ∃ v', e = .returned v' ∧ OwnB w' w.heap.size v' s ∧ Below w.heap.size w w'
set_option maxRecDepth 20000 in
set_option maxHeartbeats 16000000 in
theorem bytes_any (x : Evt) (v : Value) (w : World) (hf : x.fault = 0) (hv : EvV w x v) : Calls Tryz.prog 18 #[v] w (BytQ w x.bytes) := by
  obtain ⟨x0, x1, x2, x3, xd, xl, xc, aa, ac, rfl, hp⟩ := hv
  have hjv := hp.toV
  obtain ⟨E, hE⟩ : ∃ E, x.bytes = E := ⟨_, rfl⟩
  have HK := Lib.hid (fault_kind hf)
  have HJF : Hid (x.kind = 1 → x.job.fault = 0) := Lib.hid (fun h => fault_job hf h)
  have HRG : Hid (x.kind ≠ 1 → (0 ≤ x.n ∧ x.n ≤ 1000000000) ∧ (0 ≤ x.id ∧ x.id ≤ 65535)) := Lib.hid (fun h => fault_range hf h)
  have HE1 : Hid (E = UInt8.ofNat x.kind.toNat :: x.rest) := Lib.hid hE.symm
  rw [hE]
  have HTX := Lib.hid (fun (h : x.kind = 1) W (hb : Below w.heap.size w W) => jobTextR_any x.job _ W (fault_job hf h) (hjv.below hb))
  have HTL : Hid (x.kind = 1 → x.job.text.length ≤ 3000) := Lib.hid (fun h => text_le (fault_job hf h))
  obtain ⟨k, j, N, I, O⟩ := x
  unfold evVal
  unfold jobVal at HTX
  simp only at HTX HTL HK HJF HRG HE1 ⊢
  have HRS : Hid (Evt.rest ⟨k, j, N, I, O⟩ = if k = 1 then j.text else if k = 2 then be N.toNat 4 else if k = 4 then be I.toNat 2 ++ [bit O] else if k = 5 then be I.toNat 2 else []) := Lib.hid rfl
  obtain ⟨T, hT⟩ : ∃ T, j.text = T := ⟨_, rfl⟩
  rw [hT] at HTX HTL HRS
  obtain ⟨R, hR⟩ : ∃ R, Evt.rest ⟨k, j, N, I, O⟩ = R := ⟨_, rfl⟩
  rw [hR] at HE1 HRS
  obtain ⟨u, P, a, b, c, x, l⟩ := j
  simp only at HTX ⊢
  obtain ⟨U, hU⟩ : ∃ U, bts u = U := ⟨_, rfl⟩
  obtain ⟨n, hn⟩ : ∃ n, l.length = n := ⟨_, rfl⟩
  rw [hU, hn] at HTX ⊢
  obtain ⟨B, hB⟩ : ∃ B, B = w.heap.size := ⟨_, rfl⟩
  obtain ⟨W0, hW0⟩ : ∃ W, W = w.alloc (.cells #[.int .i64 k, .string U, .int .i64 P, .int .i64 a, .int .i64 b, .int .i64 c, .int .i64 x0, .string x1, .string x2, .int .i64 x3, .slice xd xl xc, .slice aa n ac, .int .i64 N, .int .i64 I, .bool O] 40) := ⟨_, rfl⟩
  have hbW0 : Below w.heap.size w W0 := by rw [hW0]; exact (Below.refl _ _).alloc (Nat.le_refl _) _
  have HX : Hid (BoxV B [.int .i64 k, .string U, .int .i64 P, .int .i64 a, .int .i64 b, .int .i64 c, .int .i64 x0, .string x1, .string x2, .int .i64 x3, .slice xd xl xc, .slice aa n ac, .int .i64 N, .int .i64 I, .bool O] W0) := Lib.hid (by rw [hW0]; exact BoxV.top _ hB)
  have HB0 := Lib.hid hbW0
  clear hbW0 hU hn hf hE hT hR hp hjv
  go_enter Tryz.func18, Tryz.ntmps18
  go_upto_region 1 with fail
  rw [← hW0, ← hB]
  clear hW0 hB
  obtain ⟨b0, b1, b2, b3, b4, b5, b6, b7, b8, b9, b10, b11, b12, b13, b14⟩ := HX.out.c15
  have hBl := HX.out.lt
  obtain ⟨H, hH⟩ : ∃ H, H = W0.heap.size := ⟨_, rfl⟩
  have HH : Hid (w.heap.size ≤ H) := Lib.hid (by rw [hH]; exact HB0.out.size)
  have HBH : Hid (B < H) := Lib.hid (by rw [hH]; exact HX.out.lt)
  rcases HK.out with rfl | rfl | rfl | rfl | rfl
  · have HRK : Hid (R = T) := Lib.hid (by rw [HRS.out]; simp)
    obtain ⟨W2, hW2⟩ : ∃ W, W = W0.alloc (.cells #[.int .u8 1] 5) := ⟨_, rfl⟩
    have hb2 : Below W0.heap.size W0 W2 := by rw [hW2]; exact (Below.refl _ _).alloc (Nat.le_refl _) _
    have HB2 : Hid (Below w.heap.size w W2) := Lib.hid (HB0.out.trans (hb2.mono HB0.out.size))
    have HX2 := Lib.hid (HX.out.step hb2)
    have HO2 : Hid (OwnB W2 H (.slice (some ⟨H, 0, none⟩) 1 1) [1]) := Lib.hid (by rw [hW2]; exact OwnB.one hH.symm (Nat.le_refl _) 1)
    have HH2 : Hid (H ≤ W2.heap.size) := Lib.hid (by rw [hH]; exact hb2.size)
    clear hb2
    go_upto_region 2 with fail
    rw [← hW2, ← hH]
    clear hW2 hH
    clear hBl b0 b1 b2 b3 b4 b5 b6 b7 b8 b9 b10 b11 b12 b13 b14
    obtain ⟨b0, b1, b2, b3, b4, b5, b6, b7, b8, b9, b10, b11, b12, b13, b14⟩ := HX2.out.c15
    have hBl := HX2.out.lt
    have HT1 := Lib.hid (HTL.out (by trivial))
    have HT2 := Lib.hid (HTX.out (by trivial) W2 HB2.out)
    go_wp2_with fail
    refine Calls.mono HT2.out ?_
    rintro e W3 ⟨rfl, hbn⟩
    have HB3 : Hid (Below w.heap.size w W3) := Lib.hid (HB2.out.trans (hbn.mono HB2.out.size))
    have HO3 := Lib.hid (HO2.out.below hbn)
    have HX3 := Lib.hid (HX2.out.step hbn)
    have HH3 : Hid (H ≤ W3.heap.size) := Lib.hid (Nat.le_trans HH2.out hbn.size)
    have HSR : Hid (Src Tryz.prog 1 9 (.string (bts T)) T.length (u8s T) W3) := Lib.hid (src_text W3 T rfl)
    clear hbn
    clear hBl b0 b1 b2 b3 b4 b5 b6 b7 b8 b9 b10 b11 b12 b13 b14
    obtain ⟨b0, b1, b2, b3, b4, b5, b6, b7, b8, b9, b10, b11, b12, b13, b14⟩ := HX3.out.c15
    have hBl := HX3.out.lt
    go_wp2_with (at_builtin; refine wpList_append_b (by rfl) (.tmp 12) (.tmp 15) 9 (by rfl) (H := H) (S := [1]) (v := .slice (some ⟨H, 0, none⟩) 1 1) (by rfl) HO3.out (by rfl) HSR.out rfl (by have := HT1.out; simp; omega) HH3.out ?_; intro v4 W4 hown hbw; have HO4 := Lib.hid hown; have HB4 : Hid (Below w.heap.size w W4) := Lib.hid (HB3.out.trans (hbw.mono HH.out)); clear hown hbw; clear b0 b1 b2 b3 b4 b5 b6 b7 b8 b9 b10 b11 b12 b13 b14)
    go_wp2_with fail
    go_ret
    refine ⟨v4, rfl, ?_, HB4.out⟩
    rw [HE1.out, HRK.out]
    exact HO4.out.low HH.out
  · have HRK : Hid (R = be N.toNat 4) := Lib.hid (by rw [HRS.out]; simp)
    obtain ⟨W2, hW2⟩ : ∃ W, W = W0.alloc (.cells #[.int .u8 2] 5) := ⟨_, rfl⟩
    have hb2 : Below W0.heap.size W0 W2 := by rw [hW2]; exact (Below.refl _ _).alloc (Nat.le_refl _) _
    have HB2 : Hid (Below w.heap.size w W2) := Lib.hid (HB0.out.trans (hb2.mono HB0.out.size))
    have HX2 := Lib.hid (HX.out.step hb2)
    have HO2 : Hid (OwnB W2 H (.slice (some ⟨H, 0, none⟩) 1 1) [2]) := Lib.hid (by rw [hW2]; exact OwnB.one hH.symm (Nat.le_refl _) 2)
    have HH2 : Hid (H ≤ W2.heap.size) := Lib.hid (by rw [hH]; exact hb2.size)
    clear hb2
    go_upto_region 2 with fail
    rw [← hW2, ← hH]
    clear hW2 hH
    clear hBl b0 b1 b2 b3 b4 b5 b6 b7 b8 b9 b10 b11 b12 b13 b14
    obtain ⟨b0, b1, b2, b3, b4, b5, b6, b7, b8, b9, b10, b11, b12, b13, b14⟩ := HX2.out.c15
    have hBl := HX2.out.lt
    obtain ⟨M, hM⟩ : ∃ M : Nat, N = (M : Int) := ⟨N.toNat, by have := HRG.out (by decide); omega⟩
    have HM : Hid (M ≤ 1000000000) := Lib.hid (by have := HRG.out (by decide); omega)
    obtain rfl := hM
    have HRM : Hid (R = be M 4) := Lib.hid (by rw [HRK.out, Int.toNat_natCast])
    have HNU := Lib.hid (bytesOf_any M 4 W2 (by decide) (by have := HM.out; omega))
    have hwu : IntKind.u64.wrap (M : Int) = (M : Int) := IntWalk.u64_in _ (by have := HM.out; omega)
    go_wp2_with fail
    refine Calls.mono HNU.out ?_
    rintro e W3 ⟨v3, rfl, hown, hbn⟩
    have HB3 : Hid (Below w.heap.size w W3) := Lib.hid (HB2.out.trans (hbn.mono HB2.out.size))
    have HO3 := Lib.hid (HO2.out.below hbn)
    have HX3 := Lib.hid (HX2.out.step hbn)
    have HH3 : Hid (H ≤ W3.heap.size) := Lib.hid (Nat.le_trans HH2.out hbn.size)
    have HSR : Hid (Src Tryz.prog 1 41 v3 4 (u8s (be M 4)) W3) := Lib.hid (src_own hown (be_len M 4))
    clear hown hbn
    clear hBl b0 b1 b2 b3 b4 b5 b6 b7 b8 b9 b10 b11 b12 b13 b14
    obtain ⟨b0, b1, b2, b3, b4, b5, b6, b7, b8, b9, b10, b11, b12, b13, b14⟩ := HX3.out.c15
    have hBl := HX3.out.lt
    go_wp2_with (at_builtin; refine wpList_append_b (by rfl) (.tmp 19) (.tmp 23) 41 (by rfl) (H := H) (S := [2]) (v := .slice (some ⟨H, 0, none⟩) 1 1) (by rfl) HO3.out (by rfl) HSR.out (be_len M 4) (by decide) HH3.out ?_; intro v4 W4 hown hbw; have HO4 := Lib.hid hown; have HB4 : Hid (Below w.heap.size w W4) := Lib.hid (HB3.out.trans (hbw.mono HH.out)); have HX4 := Lib.hid (HX3.out.below hbw HBH.out); have HH4 : Hid (H ≤ W4.heap.size) := Lib.hid (Nat.le_trans HH3.out hbw.size); clear hown hbw; clear hBl b0 b1 b2 b3 b4 b5 b6 b7 b8 b9 b10 b11 b12 b13 b14)
    go_wp2_with fail
    go_ret
    refine ⟨v4, rfl, ?_, HB4.out⟩
    rw [HE1.out, HRM.out]
    exact HO4.out.low HH.out
  · have HRK : Hid (R = []) := Lib.hid (by rw [HRS.out]; simp)
    obtain ⟨W2, hW2⟩ : ∃ W, W = W0.alloc (.cells #[.int .u8 3] 5) := ⟨_, rfl⟩
    have hb2 : Below W0.heap.size W0 W2 := by rw [hW2]; exact (Below.refl _ _).alloc (Nat.le_refl _) _
    have HB2 : Hid (Below w.heap.size w W2) := Lib.hid (HB0.out.trans (hb2.mono HB0.out.size))
    have HX2 := Lib.hid (HX.out.step hb2)
    have HO2 : Hid (OwnB W2 H (.slice (some ⟨H, 0, none⟩) 1 1) [3]) := Lib.hid (by rw [hW2]; exact OwnB.one hH.symm (Nat.le_refl _) 3)
    have HH2 : Hid (H ≤ W2.heap.size) := Lib.hid (by rw [hH]; exact hb2.size)
    clear hb2
    go_upto_region 2 with fail
    rw [← hW2, ← hH]
    clear hW2 hH
    clear hBl b0 b1 b2 b3 b4 b5 b6 b7 b8 b9 b10 b11 b12 b13 b14
    obtain ⟨b0, b1, b2, b3, b4, b5, b6, b7, b8, b9, b10, b11, b12, b13, b14⟩ := HX2.out.c15
    have hBl := HX2.out.lt
    go_wp2_with fail
    go_ret
    refine ⟨_, rfl, ?_, HB2.out⟩
    rw [HE1.out, HRK.out]
    exact HO2.out.low HH.out
  · have HRK : Hid (R = be I.toNat 2 ++ [bit O]) := Lib.hid (by rw [HRS.out]; simp)
    obtain ⟨W2, hW2⟩ : ∃ W, W = W0.alloc (.cells #[.int .u8 4] 5) := ⟨_, rfl⟩
    have hb2 : Below W0.heap.size W0 W2 := by rw [hW2]; exact (Below.refl _ _).alloc (Nat.le_refl _) _
    have HB2 : Hid (Below w.heap.size w W2) := Lib.hid (HB0.out.trans (hb2.mono HB0.out.size))
    have HX2 := Lib.hid (HX.out.step hb2)
    have HO2 : Hid (OwnB W2 H (.slice (some ⟨H, 0, none⟩) 1 1) [4]) := Lib.hid (by rw [hW2]; exact OwnB.one hH.symm (Nat.le_refl _) 4)
    have HH2 : Hid (H ≤ W2.heap.size) := Lib.hid (by rw [hH]; exact hb2.size)
    clear hb2
    go_upto_region 2 with fail
    rw [← hW2, ← hH]
    clear hW2 hH
    clear hBl b0 b1 b2 b3 b4 b5 b6 b7 b8 b9 b10 b11 b12 b13 b14
    obtain ⟨b0, b1, b2, b3, b4, b5, b6, b7, b8, b9, b10, b11, b12, b13, b14⟩ := HX2.out.c15
    have hBl := HX2.out.lt
    obtain ⟨M, hM⟩ : ∃ M : Nat, I = (M : Int) := ⟨I.toNat, by have := HRG.out (by decide); omega⟩
    have HM : Hid (M ≤ 65535) := Lib.hid (by have := HRG.out (by decide); omega)
    obtain rfl := hM
    have HRM : Hid (R = be M 2 ++ [bit O]) := Lib.hid (by rw [HRK.out, Int.toNat_natCast])
    have HNU := Lib.hid (bytesOf_any M 2 W2 (by decide) (by have := HM.out; omega))
    have hwu : IntKind.u64.wrap (M : Int) = (M : Int) := IntWalk.u64_in _ (by have := HM.out; omega)
    go_wp2_with fail
    refine Calls.mono HNU.out ?_
    rintro e W3 ⟨v3, rfl, hown, hbn⟩
    have HB3 : Hid (Below w.heap.size w W3) := Lib.hid (HB2.out.trans (hbn.mono HB2.out.size))
    have HO3 := Lib.hid (HO2.out.below hbn)
    have HX3 := Lib.hid (HX2.out.step hbn)
    have HH3 : Hid (H ≤ W3.heap.size) := Lib.hid (Nat.le_trans HH2.out hbn.size)
    have HSR : Hid (Src Tryz.prog 1 41 v3 2 (u8s (be M 2)) W3) := Lib.hid (src_own hown (be_len M 2))
    clear hown hbn
    clear hBl b0 b1 b2 b3 b4 b5 b6 b7 b8 b9 b10 b11 b12 b13 b14
    obtain ⟨b0, b1, b2, b3, b4, b5, b6, b7, b8, b9, b10, b11, b12, b13, b14⟩ := HX3.out.c15
    have hBl := HX3.out.lt
    go_upto_region 9 with (at_builtin; refine wpList_append_b (by rfl) (.tmp 27) (.tmp 31) 41 (by rfl) (H := H) (S := [4]) (v := .slice (some ⟨H, 0, none⟩) 1 1) (by rfl) HO3.out (by rfl) HSR.out (be_len M 2) (by decide) HH3.out ?_; intro v4 W4 hown hbw; have HO4 := Lib.hid hown; have HB4 : Hid (Below w.heap.size w W4) := Lib.hid (HB3.out.trans (hbw.mono HH.out)); have HX4 := Lib.hid (HX3.out.below hbw HBH.out); have HH4 : Hid (H ≤ W4.heap.size) := Lib.hid (Nat.le_trans HH3.out hbw.size); clear hown hbw; clear hBl b0 b1 b2 b3 b4 b5 b6 b7 b8 b9 b10 b11 b12 b13 b14; have b0 := HX4.out.cell 0 _ rfl; have b1 := HX4.out.cell 1 _ rfl; have b2 := HX4.out.cell 2 _ rfl; have b3 := HX4.out.cell 3 _ rfl; have b4 := HX4.out.cell 4 _ rfl; have b5 := HX4.out.cell 5 _ rfl; have b6 := HX4.out.cell 6 _ rfl; have b7 := HX4.out.cell 7 _ rfl; have b8 := HX4.out.cell 8 _ rfl; have b9 := HX4.out.cell 9 _ rfl; have b10 := HX4.out.cell 10 _ rfl; have b11 := HX4.out.cell 11 _ rfl; have b12 := HX4.out.cell 12 _ rfl; have b13 := HX4.out.cell 13 _ rfl; have b14 := HX4.out.cell 14 _ rfl; have hBl := HX4.out.lt)
    have HL3 : Hid (([4] ++ be M 2 : Bs).length + 1 ≤ 1000000000000) := Lib.hid (by simp [be_len])
    cases O with
    | true =>
      go_wp2_with (at_builtin; refine wpList_append_b (by rfl) (.tmp 35) (.tmp 36) 41 (by rfl) (H := H) (S := [4] ++ be M 2) (v := v4) (by rfl) (HO4.out.alloc _) (by rfl) (src_one rfl 1) rfl HL3.out (by simp; exact Nat.le_succ_of_le HH4.out) ?_; intro v5 W5 hown hbw; have HO5 := Lib.hid hown; have HB5 : Hid (Below w.heap.size w W5) := Lib.hid ((HB4.out.alloc (Nat.le_trans HH.out HH4.out) _).trans (hbw.mono HH.out)); clear hown hbw; clear b0 b1 b2 b3 b4 b5 b6 b7 b8 b9 b10 b11 b12 b13 b14)
      go_wp2_with fail
      go_ret
      refine ⟨v5, rfl, ?_, HB5.out⟩
      rw [HE1.out, HRM.out]
      exact HO5.out.low HH.out
    | false =>
      go_wp2_with (at_builtin; refine wpList_append_b (by rfl) (.tmp 38) (.tmp 39) 41 (by rfl) (H := H) (S := [4] ++ be M 2) (v := v4) (by rfl) (HO4.out.alloc _) (by rfl) (src_one rfl 0) rfl HL3.out (by simp; exact Nat.le_succ_of_le HH4.out) ?_; intro v5 W5 hown hbw; have HO5 := Lib.hid hown; have HB5 : Hid (Below w.heap.size w W5) := Lib.hid ((HB4.out.alloc (Nat.le_trans HH.out HH4.out) _).trans (hbw.mono HH.out)); clear hown hbw; clear b0 b1 b2 b3 b4 b5 b6 b7 b8 b9 b10 b11 b12 b13 b14)
      go_wp2_with fail
      go_ret
      refine ⟨v5, rfl, ?_, HB5.out⟩
      rw [HE1.out, HRM.out]
      exact HO5.out.low HH.out
  · have HRK : Hid (R = be I.toNat 2) := Lib.hid (by rw [HRS.out]; simp)
    obtain ⟨W2, hW2⟩ : ∃ W, W = W0.alloc (.cells #[.int .u8 5] 5) := ⟨_, rfl⟩
    have hb2 : Below W0.heap.size W0 W2 := by rw [hW2]; exact (Below.refl _ _).alloc (Nat.le_refl _) _
    have HB2 : Hid (Below w.heap.size w W2) := Lib.hid (HB0.out.trans (hb2.mono HB0.out.size))
    have HX2 := Lib.hid (HX.out.step hb2)
    have HO2 : Hid (OwnB W2 H (.slice (some ⟨H, 0, none⟩) 1 1) [5]) := Lib.hid (by rw [hW2]; exact OwnB.one hH.symm (Nat.le_refl _) 5)
    have HH2 : Hid (H ≤ W2.heap.size) := Lib.hid (by rw [hH]; exact hb2.size)
    clear hb2
    go_upto_region 2 with fail
    rw [← hW2, ← hH]
    clear hW2 hH
    clear hBl b0 b1 b2 b3 b4 b5 b6 b7 b8 b9 b10 b11 b12 b13 b14
    obtain ⟨b0, b1, b2, b3, b4, b5, b6, b7, b8, b9, b10, b11, b12, b13, b14⟩ := HX2.out.c15
    have hBl := HX2.out.lt
    obtain ⟨M, hM⟩ : ∃ M : Nat, I = (M : Int) := ⟨I.toNat, by have := HRG.out (by decide); omega⟩
    have HM : Hid (M ≤ 65535) := Lib.hid (by have := HRG.out (by decide); omega)
    obtain rfl := hM
    have HRM : Hid (R = be M 2) := Lib.hid (by rw [HRK.out, Int.toNat_natCast])
    have HNU := Lib.hid (bytesOf_any M 2 W2 (by decide) (by have := HM.out; omega))
    have hwu : IntKind.u64.wrap (M : Int) = (M : Int) := IntWalk.u64_in _ (by have := HM.out; omega)
    go_wp2_with fail
    refine Calls.mono HNU.out ?_
    rintro e W3 ⟨v3, rfl, hown, hbn⟩
    have HB3 : Hid (Below w.heap.size w W3) := Lib.hid (HB2.out.trans (hbn.mono HB2.out.size))
    have HO3 := Lib.hid (HO2.out.below hbn)
    have HX3 := Lib.hid (HX2.out.step hbn)
    have HH3 : Hid (H ≤ W3.heap.size) := Lib.hid (Nat.le_trans HH2.out hbn.size)
    have HSR : Hid (Src Tryz.prog 1 41 v3 2 (u8s (be M 2)) W3) := Lib.hid (src_own hown (be_len M 2))
    clear hown hbn
    clear hBl b0 b1 b2 b3 b4 b5 b6 b7 b8 b9 b10 b11 b12 b13 b14
    obtain ⟨b0, b1, b2, b3, b4, b5, b6, b7, b8, b9, b10, b11, b12, b13, b14⟩ := HX3.out.c15
    have hBl := HX3.out.lt
    go_wp2_with (at_builtin; refine wpList_append_b (by rfl) (.tmp 43) (.tmp 47) 41 (by rfl) (H := H) (S := [5]) (v := .slice (some ⟨H, 0, none⟩) 1 1) (by rfl) HO3.out (by rfl) HSR.out (be_len M 2) (by decide) HH3.out ?_; intro v4 W4 hown hbw; have HO4 := Lib.hid hown; have HB4 : Hid (Below w.heap.size w W4) := Lib.hid (HB3.out.trans (hbw.mono HH.out)); have HX4 := Lib.hid (HX3.out.below hbw HBH.out); have HH4 : Hid (H ≤ W4.heap.size) := Lib.hid (Nat.le_trans HH3.out hbw.size); clear hown hbw; clear hBl b0 b1 b2 b3 b4 b5 b6 b7 b8 b9 b10 b11 b12 b13 b14)
    go_wp2_with fail
    go_ret
    refine ⟨v4, rfl, ?_, HB4.out⟩
    rw [HE1.out, HRM.out]
    exact HO4.out.low HH.out
end Go.Proofs.YtkemlckmfgacdaaGreatDoor
namespace Go.Proofs.YtkemlckmfgacdaaGreatDoor
open Go.ChangeShapes Go.WideShapes Go.ChangeAt Go.RowKit
set_option linter.unusedVariables false
set_option linter.unusedSimpArgs false
open Tp Jm Ev
theorem fault_two (n : Int) : (Evt.mk 2 zJb n 0 false).fault = if n < 0 ∨ 1000000000 < n then 4 else 0 := by
  unfold Evt.fault
  rw [odd_z (by decide) (fun h => absurd rfl h) (fun _ _ => rfl) (fun _ => rfl) zJb (fun _ => rfl)]
  have hc : (n < 0 ∨ 1000000000 < n ∨ (0 : Int) < 0 ∨ (65535 : Int) < 0) ↔ (n < 0 ∨ 1000000000 < n) := by omega
  simp only [Bool.false_eq_true, if_false, show ¬ (2 : Int) = 1 by decide, hc]
theorem rd_fault {b : Bs} {y : Evt} {O : Option Evt} (hO : rd b = O) (h : rd b = some y) {f : Int} (hf : y.fault = f) : O = if f = 0 then some y else none := by
  rw [← hO, h, if_pos (hf.symm.trans (rd_bytes h).1)]
end Go.Proofs.YtkemlckmfgacdaaGreatDoor
