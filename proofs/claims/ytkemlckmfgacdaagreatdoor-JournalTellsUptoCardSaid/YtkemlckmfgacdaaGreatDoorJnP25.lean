/- Contracts: journal.Frame, the document's Framed. -/
import Derived.Test.YtkemlckmfgacdaaGreatDoorJnP24
import Derived.Test.YtkemlckmfgacdaaGreatDoorJnP11
import Derived.Test.YtkemlckmfgacdaaGreatDoorShelf
import Derived.Laws.BitsAllLaws
import Derived.Test.YtkemlckmfgacdaaGreatDoorJnP5
import Derived.Test.YtkemlckmfgacdaaGreatDoorJnP9
import Derived.BigQuiet
import Derived.Deep.QuietTactic
import Derived.Deep.LoopGhost
import Derived.Deep.CutBlock
import Derived.Deep.DeepCutAuto
namespace Go.Proofs.YtkemlckmfgacdaaGreatDoor
set_option maxRecDepth 20000
set_option maxHeartbeats 64000000
open Go.ChangeShapes Go.WideShapes Go.ChangeAt Go.RowKit
set_option linter.unusedVariables false
set_option linter.unusedSimpArgs false
open Tp Jm Ev
def Ev.framed (b : Bs) : Bs := be b.length 2 ++ b ++ be (sumI 0 b).toNat 8
def Ev.Evt.frm (x : Evt) : Bs := if x.fault = 0 then framed x.bytes else []
theorem bytes_le {x : Evt} (h : x.fault = 0) : x.bytes.length ≤ 3001 := by
 unfold Evt.bytes Evt.rest
 rw [List.length_cons]
 split
 ·rename_i hk
  have := text_le (fault_job h hk)
  omega
 split
 ·rw [be_len]; omega
 split
 ·simp [be_len]
 split
 ·rw [be_len]; omega
 ·simp
theorem OwnB.two {W : World} {g H : Nat} (hg : W.heap.size = g) (hH : H ≤ g) (c d : UInt8) : OwnB (W.alloc (.cells #[.int .u8 (c.toNat : Int), .int .u8 (d.toNat : Int)] 5)) H (.slice (some ⟨g, 0, none⟩) 2 2) [c, d] := by
 subst hg
 exact ⟨rfl, .inr ⟨_, 2, _, rfl, hH, heap_alloc_new W _, Nat.le_refl _, by decide, rfl, rfl⟩⟩
theorem frame_any (x : Evt) (v : Value) (w : World) (hs : x.job.ask.size ≤ 1000000000) (he : Env w) (hv : EvV w x v) : Calls Tryz.prog 21 #[v] w (EncQ w x.frm x.fault) := by
 have HEN := hid (fun W (h : Below w.heap.size w W) => encode_any x _ W hs (he.below h lr) (hv.below h))
 obtain ⟨x0, x1, x2, x3, xd, xl, xc, aa, ac, rfl, hp⟩ := id hv
 obtain ⟨E, hE⟩ : ∃ E, x.frm = E := ⟨_, rfl⟩
 obtain ⟨f, hf⟩ : ∃ E, x.fault = E := ⟨_, rfl⟩
 obtain ⟨T, hT⟩ : ∃ T, x.enc = T := ⟨_, rfl⟩
 have HF0 : Hid (f ≠ 0 → E = []) := hid (fun h => by rw [← hE]; unfold Evt.frm; rw [if_neg (by rw [hf]; exact h)])
 have HF1 : Hid (f = 0 → E = framed T ∧ T.length ≤ 3001) := hid (fun h => by
  have h0 : x.fault = 0 := hf.trans h
  have e : T = x.bytes := by rw [← hT]; unfold Evt.enc; rw [if_pos h0]
  exact ⟨by rw [← hE]; unfold Evt.frm; rw [if_pos h0, e], by rw [e]; exact bytes_le h0⟩)
 rw [hE, hf]
 rw [hf, hT] at HEN
 clear hE hf hT hp hs he hv
 obtain ⟨k, j, N, I, O⟩ := x
 unfold evVal at HEN ⊢
 simp only at HEN ⊢
 obtain ⟨u, P, a, b, c, x, l⟩ := j
 simp only at HEN ⊢
 obtain ⟨U, hU⟩ : ∃ U, bts u = U := ⟨_, rfl⟩
 obtain ⟨n, hn⟩ : ∃ n, l.length = n := ⟨_, rfl⟩
 rw [hU, hn] at HEN ⊢
 clear hU hn
 obtain ⟨B, hB⟩ : ∃ B, B = w.heap.size := ⟨_, rfl⟩
 obtain ⟨W0, hW0⟩ : ∃ W, W = w.alloc (.cells #[.int .i64 k, .string U, .int .i64 P, .int .i64 a, .int .i64 b, .int .i64 c, .int .i64 x0, .string x1, .string x2, .int .i64 x3, .slice xd xl xc, .slice aa n ac, .int .i64 N, .int .i64 I, .bool O] 40) := ⟨_, rfl⟩
 have hbW0 : Below w.heap.size w W0 := be0 hW0
 have HX : Hid (BoxV B [.int .i64 k, .string U, .int .i64 P, .int .i64 a, .int .i64 b, .int .i64 c, .int .i64 x0, .string x1, .string x2, .int .i64 x3, .slice xd xl xc, .slice aa n ac, .int .i64 N, .int .i64 I, .bool O] W0) := hid (by rw [hW0]; exact BoxV.top _ hB)
 have HB0 := hid hbW0
 clear hbW0
 go_enter Tryz.func21, Tryz.ntmps21
 go_upto_region 1 with fail
 rw [← hW0, ← hB]
 clear hW0 hB
 obtain ⟨b0, b1, b2, b3, b4, b5, b6, b7, b8, b9, b10, b11, b12, b13, b14⟩ := HX.out.c15
 have hBl := HX.out.lt
 go_wp2_with fail
 refine Calls.mono (HEN.out W0 HB0.out) ?_
 rintro e W1 ⟨v4, rfl, hown, hbn⟩
 obtain ⟨a4, c4, rfl, -, -, hby, -⟩ := hown.form
 have HB1 : Hid (Below w.heap.size w W1) := hid (HB0.out.trans (hbn.mono HB0.out.size))
 have HO1 := hid hown
 have HY1 := hid hby
 obtain ⟨n4, hn4⟩ : ∃ n, T.length = n := ⟨_, rfl⟩
 rw [hn4] at HO1 ⊢
 have HN4 := hid hn4
 clear hbn hown hby hn4 hBl b0 b1 b2 b3 b4 b5 b6 b7 b8 b9 b10 b11 b12 b13 b14
 by_cases h0 : f = 0
 ·subst h0
  obtain ⟨hfe, hfl⟩ := HF1.out rfl
  have HFE := hid hfe
  have HFL := hid hfl
  have hn63 : n4 ≤ 3001 := by have := HN4.out; omega
  obtain ⟨H, hH⟩ : ∃ H, H = W1.heap.size := ⟨_, rfl⟩
  have HH : Hid (w.heap.size ≤ H) := hid (by rw [hH]; exact HB1.out.size)
  obtain ⟨C, hC⟩ : ∃ c, UInt8.ofNat (n4 / 256 ^ 1 % 256) = c := ⟨_, rfl⟩
  obtain ⟨D, hD⟩ : ∃ c, UInt8.ofNat (n4 / 256 ^ 0 % 256) = c := ⟨_, rfl⟩
  have hcc : (n4 : Int) / 256 = (C.toNat : Int) := by rw [← hC]; have := byte_of n4 1; rw [← this]; omega
  have hdd : (n4 : Int) % 256 = (D.toNat : Int) := by rw [← hD]; simp
  have HCD : Hid (be n4 2 = [C, D]) := hid (by rw [be, be, be, hC, hD])
  obtain ⟨W2, hW2⟩ : ∃ W, W = W1.alloc (.cells #[.int .u8 (C.toNat : Int), .int .u8 (D.toNat : Int)] 5) := ⟨_, rfl⟩
  have hb2 : Below W1.heap.size W1 W2 := be0 hW2
  have HO2 : Hid (OwnB W2 H (.slice (some ⟨H, 0, none⟩) 2 2) [C, D]) := hid (by rw [hW2]; exact OwnB.two hH.symm lr C D)
  have HB2 : Hid (Below w.heap.size w W2) := hid (HB1.out.trans (hb2.mono HB1.out.size))
  have HY2 := hid (HY1.out.below hb2)
  have HSR : Hid (Src Tryz.prog 1 41 (.slice a4 n4 c4) n4 (u8s T) W2) := hid (src_row HY2.out HN4.out)
  have HH2 : Hid (H ≤ W2.heap.size) := hid (by rw [hH]; exact hb2.size)
  have H12 := hid hb2
  have HHE := hid hH
  clear hb2 hfe hfl hC hD
  have hW2' := hW2.symm
  clear hW2 hH
  go_upto_region 5 with (at_builtin; rw [← HHE.out]; refine wpList_append_b (by rfl) (.tmp 24) (.tmp 25) 41 (by rfl) (H := H) (S := [C, D]) (v := .slice (some ⟨H, 0, none⟩) 2 2) (by rfl) HO2.out (by rfl) HSR.out HN4.out (by simp; omega) HH2.out ?_; intro v6 W3 hown hbw; have HO3 := hid hown; have HB3 : Hid (Below w.heap.size w W3) := hid (HB2.out.trans (hbw.mono HH.out)); have H13 : Hid (Below W1.heap.size W1 W3) := hid (H12.out.trans (by rw [← HHE.out]; exact hbw)); clear hown hbw)
  have hconv := (HY1.out.below H13.out).text HN4.out c4
  obtain ⟨TS, hTS⟩ : ∃ t, bts T = t := ⟨_, rfl⟩
  have HSU := hid (sum_any 0 T W3 (by have := HN4.out; omega))
  rw [hTS] at hconv HSU
  obtain ⟨S, hS⟩ : ∃ S : Nat, sumI 0 T = (S : Int) := ⟨(sumI 0 T).toNat, by have := (sumI_in T 0 (by omega) (by omega)).1; omega⟩
  have HSS : Hid ((sumI 0 T).toNat = S) := hid (by rw [hS]; omega)
  rw [hS] at HSU
  clear hTS hS hcc hdd hW2'
  go_wp2_with fail
  refine Calls.mono HSU.out ?_
  rintro e W4 ⟨rfl, hbn⟩
  have HB4 : Hid (Below w.heap.size w W4) := hid (HB3.out.trans (hbn.mono HB3.out.size))
  have HO4 := hid (HO3.out.below hbn)
  have HH4 : Hid (H ≤ W4.heap.size) := hid (Nat.le_trans (by rw [HHE.out]; exact H13.out.size) hbn.size)
  have HLT : Hid ((([C, D] : Bs) ++ T).length ≤ 4000) := hid (by rw [List.length_append, HN4.out]; simp; omega)
  clear hbn hconv
  go_wp2_with fail
  go_loopg [6, 8] 8 (fun g x y wr => ∃ hi, y = .int .i64 (8 * (g : Int) - 8) ∧ Hid (hi ++ be S g = be S 8) ∧ Hid (OwnB wr H x ([C, D] ++ T ++ hi)) ∧ Hid (Below w.heap.size w wr) ∧ Hid (H ≤ wr.heap.size))
  case atStart => exact ⟨[], rfl, hid rfl, hid (by rw [List.append_nil]; exact HO4.out), HB4, HH4⟩
  case round =>
   obtain ⟨hi, rfl, HI, HO, HB, HHr⟩ := hrel
   by_cases hg : 0 < gk
   ·obtain ⟨q, hq⟩ : ∃ q, gk = q + 1 := ⟨gk - 1, by omega⟩
    have e1 : 8 * (gk : Int) - 8 = 8 * (q : Int) := by omega
    have HQ := hid hq
    have hqm : q < 8 := by have := be_fits HI.out; omega
    have hq0 : (0 : Int) ≤ 8 * (q : Int) := by omega
    have hq8 : 8 * (q : Int) < 64 := by omega
    have HL : Hid (([C, D] ++ T ++ hi : Bs).length ≤ 5000) := hid (by have := be_fits HI.out; have e := congrArg List.length HI.out; rw [List.length_append, be_len, be_len] at e; rw [List.length_append]; have := HLT.out; omega)
    rw [e1]
    clear hq e1
    obtain ⟨c, hc⟩ : ∃ c, UInt8.ofNat (S / 256 ^ q % 256) = c := ⟨_, rfl⟩
    have hcx : (S : Int) / 2 ^ (8 * q) % 256 = (c.toNat : Int) := by rw [← hc]; exact byte_of S q
    have HC := hid hc
    have HCR : Hid ((IntKind.i64.wrap (8 * (q : Int) - 8)) = 8 * (q : Int) - 8) := hid (IntWalk.i64_in _ (by omega))
    have hw8 := HCR.out
    clear hc
    go_wp2_with (at_builtin; refine wpList_append_b (by rfl) (.tmp 34) (.tmp 39) 41 (by rfl) (H := H) (S := [C, D] ++ T ++ hi) (by rfl) (HO.out.alloc _) (by rfl) (src_one rfl c) rfl (by have := HL.out; omega) (by simp; exact Nat.le_succ_of_le HHr.out) ?_; intro v' w1 hown hbw; have HO1 := hid hown; have HB1 : Hid (Below w.heap.size w w1) := hid ((HB.out.alloc HB.out.size _).trans (hbw.mono HH.out)); have HH1 : Hid (H ≤ w1.heap.size) := hid (Nat.le_trans HHr.out (Nat.le_trans (Nat.le_of_lt (by simp)) hbw.size)); clear hown hbw)
    go_roundg q
    case measure => (have := HQ.out; omega)
    case rel => exact ⟨hi ++ [c], rfl, hid (by rw [← HC.out]; exact be_step (by rw [← HQ.out]; exact HI.out)), hid (by rw [← List.append_assoc]; exact HO1.out), HB1, HH1⟩
   ·obtain rfl : gk = 0 := by omega
    have HFI : Hid (hi = be S 8) := hid (by rw [← HI.out]; simp [be])
    have hneg : ¬ (0 : Int) ≤ 8 * ((0 : Nat) : Int) - 8 := by omega
    go_wp2_with fail
    go_ret2
    refine ⟨_, rfl, ?_, HB.out⟩
    have h2 : E = [C, D] ++ T ++ hi := by rw [HFE.out]; unfold framed; rw [HN4.out, HCD.out, HSS.out, HFI.out]
    rw [h2]
    exact HO.out.low HH.out
 ·have h1 : (f != 0) = true := by simpa using h0
  have HE3 := hid (HF0.out h0)
  clear h0
  go_wp2_with fail
  go_ret2
  refine ⟨_, rfl, ?_, HB1.out⟩
  rw [HE3.out]
  exact OwnB.nil _ _
theorem framed_any (x : Evt) (v : Value) (w : World) (hf : x.fault = 0) (hv : EvV w x v) : Calls Tryz.prog 25 #[v] w (BytQ w (framed x.bytes)) := by
 have HEN := hid (fun W (h : Below w.heap.size w W) => bytes_any x _ W hf (hv.below h))
 obtain ⟨x0, x1, x2, x3, xd, xl, xc, aa, ac, rfl, hp⟩ := id hv
 have hle := bytes_le hf
 obtain ⟨T, hT⟩ : ∃ T, x.bytes = T := ⟨_, rfl⟩
 obtain ⟨E, hE⟩ : ∃ E, framed T = E := ⟨_, rfl⟩
 have HE := hid hE
 rw [hT, hE]
 rw [hT] at HEN hle
 have HLE := hid hle
 clear hE hT hp hv hf hle
 obtain ⟨k, j, N, I, O⟩ := x
 unfold evVal at HEN ⊢
 simp only at HEN ⊢
 obtain ⟨u, P, a, b, c, x, l⟩ := j
 simp only at HEN ⊢
 obtain ⟨U, hU⟩ : ∃ U, bts u = U := ⟨_, rfl⟩
 obtain ⟨n, hn⟩ : ∃ n, l.length = n := ⟨_, rfl⟩
 rw [hU, hn] at HEN ⊢
 clear hU hn
 obtain ⟨B, hB⟩ : ∃ B, B = w.heap.size := ⟨_, rfl⟩
 obtain ⟨W0, hW0⟩ : ∃ W, W = w.alloc (.cells #[.int .i64 k, .string U, .int .i64 P, .int .i64 a, .int .i64 b, .int .i64 c, .int .i64 x0, .string x1, .string x2, .int .i64 x3, .slice xd xl xc, .slice aa n ac, .int .i64 N, .int .i64 I, .bool O] 40) := ⟨_, rfl⟩
 have hbW0 : Below w.heap.size w W0 := be0 hW0
 have HX : Hid (BoxV B [.int .i64 k, .string U, .int .i64 P, .int .i64 a, .int .i64 b, .int .i64 c, .int .i64 x0, .string x1, .string x2, .int .i64 x3, .slice xd xl xc, .slice aa n ac, .int .i64 N, .int .i64 I, .bool O] W0) := hid (by rw [hW0]; exact BoxV.top _ hB)
 have HB0 := hid hbW0
 clear hbW0
 go_enter Tryz.func25, Tryz.ntmps25
 go_upto_region 1 with fail
 rw [← hW0, ← hB]
 clear hW0 hB
 obtain ⟨b0, b1, b2, b3, b4, b5, b6, b7, b8, b9, b10, b11, b12, b13, b14⟩ := HX.out.c15
 have hBl := HX.out.lt
 go_wp2_with fail
 refine Calls.mono (HEN.out W0 HB0.out) ?_
 rintro e W1 ⟨v4, rfl, hown, hbn⟩
 obtain ⟨a4, c4, rfl, -, -, hby, -⟩ := hown.form
 have HB1 : Hid (Below w.heap.size w W1) := hid (HB0.out.trans (hbn.mono HB0.out.size))
 have HY1 := hid hby
 obtain ⟨n4, hn4⟩ : ∃ n, T.length = n := ⟨_, rfl⟩
 rw [hn4]
 have HN4 := hid hn4
 have hn63 : n4 ≤ 3001 := by have := HLE.out; omega
 obtain ⟨H, hH⟩ : ∃ H, H = W1.heap.size := ⟨_, rfl⟩
 have HH : Hid (w.heap.size ≤ H) := hid (by rw [hH]; exact HB1.out.size)
 have HHE := hid hH
 have HBO := hid (bytesOf_any n4 2 W1 (by decide) (by omega))
 have hwu : IntKind.u64.wrap (n4 : Int) = (n4 : Int) := IntWalk.u64_in _ (by omega)
 clear hbn hown hby hn4 hH hBl b0 b1 b2 b3 b4 b5 b6 b7 b8 b9 b10 b11 b12 b13 b14
 go_wp2_with fail
 refine Calls.mono HBO.out ?_
 rintro e W2 ⟨v5, rfl, hown, hbn⟩
 have HO2 : Hid (OwnB W2 H v5 (be n4 2)) := hid (by rw [HHE.out]; exact hown)
 have H12 := hid hbn
 have HB2 : Hid (Below w.heap.size w W2) := hid (HB1.out.trans (hbn.mono HB1.out.size))
 have HY2 := hid (HY1.out.below hbn)
 have HSR : Hid (Src Tryz.prog 1 41 (.slice a4 n4 c4) n4 (u8s T) W2) := hid (src_row HY2.out HN4.out)
 have HH2 : Hid (H ≤ W2.heap.size) := hid (by rw [HHE.out]; exact hbn.size)
 clear hbn hown
 go_upto_region 3 with (at_builtin; refine wpList_append_b (by rfl) (.tmp 10) (.tmp 11) 41 (by rfl) (H := H) (S := be n4 2) (v := v5) (by rfl) HO2.out (by rfl) HSR.out HN4.out (by rw [be_len]; omega) HH2.out ?_; intro v6 W3 hown hbw; have HO3 := hid hown; have HB3 : Hid (Below w.heap.size w W3) := hid (HB2.out.trans (hbw.mono HH.out)); have H13 : Hid (Below W1.heap.size W1 W3) := hid (H12.out.trans (by rw [← HHE.out]; exact hbw)); clear hown hbw)
 have hconv := (HY1.out.below H13.out).text HN4.out c4
 obtain ⟨TS, hTS⟩ : ∃ t, bts T = t := ⟨_, rfl⟩
 have HSU := hid (sumOf_any 0 T W3 (by have := HN4.out; omega) (by omega) (by omega))
 rw [hTS] at hconv HSU
 obtain ⟨S, hS⟩ : ∃ S : Nat, sumI 0 T = (S : Int) := ⟨(sumI 0 T).toNat, by have := (sumI_in T 0 (by omega) (by omega)).1; omega⟩
 have HSS : Hid ((sumI 0 T).toNat = S) := hid (by rw [hS]; omega)
 have hS64 : S ≤ 18446744073709551615 := by have := (sumI_in T 0 (by omega) (by omega)).2; omega
 have HB8 := hid (bytesOf_any S 8 W3 (by decide) hS64)
 rw [hS] at HSU
 clear hTS hS hS64 hwu
 go_wp2_with fail
 refine Calls.mono HSU.out ?_
 rintro e w9 ⟨rfl, hw9⟩
 subst hw9
 go_wp2_with fail
 refine Calls.mono HB8.out ?_
 rintro e W4 ⟨v7, rfl, hown, hbn⟩
 have HO4 := hid (HO3.out.below hbn)
 have HS8 := hid (src_own hown (be_len S 8))
 have HB4 : Hid (Below w.heap.size w W4) := hid (HB3.out.trans (hbn.mono HB3.out.size))
 have HH4 : Hid (H ≤ W4.heap.size) := hid (Nat.le_trans (by rw [HHE.out]; exact H13.out.size) hbn.size)
 have HLT : Hid ((be n4 2 ++ T).length + 8 ≤ 1000000000000) := hid (by rw [List.length_append, be_len, HN4.out]; omega)
 clear hbn hown hconv
 go_wp2_with (at_builtin; refine wpList_append_b (by rfl) (.tmp 13) (.tmp 17) 41 (by rfl) (H := H) (S := be n4 2 ++ T) (v := v6) (by rfl) HO4.out (by rfl) HS8.out (be_len S 8) HLT.out HH4.out ?_; intro v8 W5 hown hbw; have HO5 := hid hown; have HB5 : Hid (Below w.heap.size w W5) := hid (HB4.out.trans (hbw.mono HH.out)); clear hown hbw)
 go_ret
 refine ⟨v8, rfl, ?_, HB5.out⟩
 have h2 : E = be n4 2 ++ T ++ be S 8 := by rw [← HE.out]; unfold framed; rw [HN4.out, HSS.out]
 rw [h2]
 exact HO5.out.low HH.out
end Go.Proofs.YtkemlckmfgacdaaGreatDoor
namespace Go.Proofs.YtkemlckmfgacdaaGreatDoor.Ev
set_option maxRecDepth 20000
set_option maxHeartbeats 64000000
open Go.Proofs.YtkemlckmfgacdaaGreatDoor.Tp Go.Proofs.YtkemlckmfgacdaaGreatDoor.Jm
set_option linter.unusedVariables false
def nextF (b : Bs) (i : Nat) : Option (Evt × Nat) :=
 if (b.drop i).length < 2 then none
 else if (b.drop i).length < num ((b.drop i).take 2) + 10 then none
 else match rd (((b.drop i).drop 2).take (num ((b.drop i).take 2))) with
  | none => none
  | some x => if framed x.bytes = (b.drop i).take (num ((b.drop i).take 2) + 10) then some (x, num ((b.drop i).take 2) + 10) else none
def iter (b : Bs) : Nat → List Evt × Nat → List Evt × Nat
 | 0, s => s
 | f + 1, s => match nextF b s.2 with
  | none => s
  | some (x, m) => iter b f (s.1 ++ [x], s.2 + m)
theorem iter_stop {b : Bs} {f : Nat} {s : List Evt × Nat} (h : nextF b s.2 = none) : iter b f s = s := by
 cases f with
 | zero => rfl
 | succ f => rw [iter, h]
theorem iter_go {b : Bs} {f i : Nat} {L : List Evt} {x : Evt} {m : Nat} (h : nextF b i = some (x, m)) : iter b (f + 1) (L, i) = iter b f (L ++ [x], i + m) := by
 rw [iter]
 simp only
 rw [h]
theorem next_short {b : Bs} {i : Nat} (h : (b.drop i).length < 2) : nextF b i = none := by
 unfold nextF
 rw [if_pos h]
theorem next_cut {b : Bs} {i n : Nat} (h : ¬ (b.drop i).length < 2) (hn : num ((b.drop i).take 2) = n) (h2 : (b.drop i).length < n + 10) : nextF b i = none := by
 unfold nextF
 rw [if_neg h, hn, if_pos h2]
theorem next_bad {b : Bs} {i n : Nat} (h : ¬ (b.drop i).length < 2) (hn : num ((b.drop i).take 2) = n) (h2 : ¬ (b.drop i).length < n + 10) (hr : rd (((b.drop i).drop 2).take n) = none) : nextF b i = none := by
 unfold nextF
 rw [if_neg h, hn, if_neg h2, hr]
theorem next_at {b : Bs} {i n : Nat} {x : Evt} (h : ¬ (b.drop i).length < 2) (hn : num ((b.drop i).take 2) = n) (h2 : ¬ (b.drop i).length < n + 10) (hr : rd (((b.drop i).drop 2).take n) = some x) : nextF b i = if framed x.bytes = (b.drop i).take (n + 10) then some (x, n + 10) else none := by
 unfold nextF
 rw [if_neg h, hn, if_neg h2, hr]
end Go.Proofs.YtkemlckmfgacdaaGreatDoor.Ev
namespace Go.Proofs.YtkemlckmfgacdaaGreatDoor
set_option maxRecDepth 20000
set_option maxHeartbeats 64000000
open Go.ChangeShapes Go.WideShapes Go.ChangeAt Go.RowKit
set_option linter.unusedVariables false
set_option linter.unusedSimpArgs false
open Tp Jm Ev
theorem bytesOf_nums8 (s : Bs) : Lib.bytesOf (nums8 s) = s := by
 unfold Lib.bytesOf nums8
 rw [List.map_map]
 refine (List.map_congr_left (g := id) fun c _ => ?_).trans (List.map_id s)
 apply UInt8.toNat_inj.1
 simp
theorem eqB_any {w : World} {a b : Option Addr} {s t : Bs} (ha : BytA w a s) (hb : BytA w b t) {n m : Nat} (hn : s.length = n) (hm : t.length = m) (c d : Nat) : Calls Tryz.prog 17 #[.slice a n c, .slice b m d] w fun e w' => e = .returned (.bool (decide (s = t))) ∧ w' = w := by
 refine Calls.mono (Tryz.bytes_Equal_all a b n c m d (nums8 s) (nums8 t) w (by simp [nums8, hn]) (by simp [nums8, hm]) (ha.bytesIn hn) (hb.bytesIn hm)) ?_
 rintro e w' ⟨rfl, rfl⟩
 rw [bytesOf_nums8, bytesOf_nums8]
 refine ⟨?_, rfl⟩
 by_cases h : s = t
 ·subst h; simp
 ·simp [h]
theorem num_take {s : Bs} {k : Nat} {c : UInt8} (h : s[k]? = some c) : num (s.take (k + 1)) = num (s.take k) * 256 + c.toNat := by
 rw [take_snoc h, num_snoc]
theorem num_le {s : Bs} {k : Nat} (h : k ≤ 4) : num (s.take k) ≤ 4294967295 := by
 have h1 := num_lt (s.take k)
 have h2 : (s.take k).length ≤ 4 := by rw [List.length_take]; omega
 have h3 : 256 ^ (s.take k).length ≤ 256 ^ 4 := Nat.pow_le_pow_right (by decide) h2
 have h4 : 256 ^ 4 = 4294967296 := by decide
 omega
theorem or_byte (a : Nat) (c : UInt8) (ha : a ≤ 4294967295) : bits .or .i64 ((a : Int) * 256) (c.toNat : Int) = ((a * 256 + c.toNat : Nat) : Int) := by
 have hc : c.toNat < 2 ^ 8 := c.toNat_lt
 have e : a * 256 ||| c.toNat = a * 256 + c.toNat := by
  have := Nat.shiftLeft_add_eq_or_of_lt hc a
  rw [Nat.shiftLeft_eq] at this
  exact this.symm
 have e2 : (a : Int) * 256 = ((a * 256 : Nat) : Int) := by omega
 have h1 : (BitVec.ofInt 64 ((a * 256 : Nat) : Int)).toNat = a * 256 := by
  rw [BitVec.ofInt_natCast, BitVec.toNat_ofNat]; exact Nat.mod_eq_of_lt (by omega)
 have h2 : (BitVec.ofInt 64 ((c.toNat : Nat) : Int)).toNat = c.toNat := by
  rw [BitVec.ofInt_natCast, BitVec.toNat_ofNat]; exact Nat.mod_eq_of_lt (by omega)
 rw [e2]
 show IntKind.i64.wrap ((BitVec.ofInt 64 ((a * 256 : Nat) : Int) ||| BitVec.ofInt 64 (c.toNat : Int)).toNat : Int) = _
 rw [BitVec.toNat_or, h1, h2, e]
 exact IntWalk.i64_in _ (by omega)
theorem and_byte (a : Nat) (ha : a ≤ 4294967295) : bits .and .i64 (a : Int) 255 = (a : Int) % 256 := by
 have h1 : (BitVec.ofInt 64 (a : Int)).toNat = a := by
  rw [BitVec.ofInt_natCast, BitVec.toNat_ofNat]; exact Nat.mod_eq_of_lt (by omega)
 have h2 : (BitVec.ofInt 64 (255 : Int)).toNat = 255 := by decide
 have e : a &&& 255 = a % 256 := Nat.and_two_pow_sub_one_eq_mod a 8
 show IntKind.i64.wrap ((BitVec.ofInt 64 (a : Int) &&& BitVec.ofInt 64 255).toNat : Int) = _
 rw [BitVec.toNat_and, h1, h2, e]
 rw [IntWalk.i64_in _ (by omega)]
 omega
theorem value_any (s : Bs) (a : Option Addr) (n cap : Nat) (w : World) (hn : s.length = n) (h4 : n ≤ 4) (hs : BytA w a s) : Calls Tryz.prog 53 #[.slice a n cap] w fun e w' => e = .returned (.int .i64 (numI s)) ∧ w' = w := by
 have HS := hid hs
 have HN := hid hn
 have H4 := hid h4
 clear hs hn h4
 go_enter Tryz.func53, Tryz.ntmps53
 go_wp2_with fail
 go_loopg [3, 8] n (fun g x y wr => ∃ k N : Nat, k + g = n ∧ x = .int .i64 (N : Int) ∧ y = .int .i64 (k : Int) ∧ Hid (N = num (s.take k)) ∧ Hid (w = wr))
 case atStart => exact ⟨0, 0, by omega, rfl, rfl, hid rfl, hid rfl⟩
 case round =>
  obtain ⟨k, N, hk, rfl, rfl, HNU, HB⟩ := hrel
  obtain rfl := HB.out
  have HK := hid hk
  by_cases hkn : k < n
  ·obtain ⟨c, hc⟩ : ∃ c, s[k]? = some c := ⟨_, List.getElem?_eq_getElem (by rw [HN.out]; exact hkn)⟩
   obtain ⟨b, off, rfl, hbl, hcells⟩ := HS.out.cell hc
   have hcell := hcells k c hc
   have HC := hid hc
   have hNle : (N : Int) ≤ 4294967295 := by have := num_le (s := s) (k := k) (by have := H4.out; omega); have := HNU.out; omega
   have hk1 : (0 : Int) ≤ (k : Int) := by omega
   have hk2 : (k : Int) < (n : Int) := by omega
   have hcl : (c.toNat : Int) < 256 := by have := c.toNat_lt; omega
   have w1 : IntKind.i64.wrap ((N : Int) * 256) = (N : Int) * 256 := IntWalk.i64_in _ (by omega)
   have w2 : IntKind.i64.wrap ((N : Int) * 256 + (c.toNat : Int)) = ((N * 256 + c.toNat : Nat) : Int) := by rw [IntWalk.i64_in _ (by omega)]; omega
   have w3 : IntKind.i64.wrap ((k : Int) + 1) = ((k + 1 : Nat) : Int) := IntWalk.i64_in _ (by have := H4.out; omega)
   clear hc hcells hk
   go_wp2_with fail
   go_roundg (n - (k + 1))
   case measure => (have := HK.out; omega)
   case rel => exact ⟨k + 1, N * 256 + c.toNat, by have := HK.out; omega, by simp, by simp, hid (by rw [num_take HC.out, HNU.out]), hid rfl⟩
  ·have hk2 : ¬ (k : Int) < (n : Int) := by omega
   have HE : Hid ((N : Int) = numI s) := hid (by unfold numI; rw [HNU.out, List.take_of_length_le (by have := HN.out; omega)])
   clear hk hkn
   go_wp2_with fail
   go_ret
   exact ⟨by rw [HE.out]; rfl, rfl⟩
end Go.Proofs.YtkemlckmfgacdaaGreatDoor
namespace Go.Proofs.YtkemlckmfgacdaaGreatDoor
set_option maxRecDepth 20000
set_option maxHeartbeats 64000000
open Go.ChangeShapes Go.WideShapes Go.ChangeAt Go.RowKit
set_option linter.unusedVariables false
open Tp
def NoSf (s : Bs) (i : Nat) : Prop := ∀ (j : Nat) (b : UInt8), j < i → s[j]? = some b → Ar.sgn b = false
theorem front_hit {s : Bs} {i : Nat} {b : UInt8} (h : NoSf s i) (hb : s[i]? = some b) (hs : Ar.sgn b = true) : Ar.word s = s.take i ∧ Ar.rest s = s.drop i := by
 have e : s = s.take i ++ s.drop i := (List.take_append_drop i s).symm
 have h1 : ∀ c, c ∈ s.take i → Ar.sgn c = false := fun c hc => by
  obtain ⟨j, hj, e2⟩ := List.mem_iff_getElem.1 hc
  have hj2 : j < i := by rw [List.length_take] at hj; omega
  refine h j c hj2 ?_
  rw [← e2, List.getElem_take]
  exact List.getElem?_eq_getElem _
 have h2 : Ar.Stop (s.drop i) := .inr ⟨b, s.drop (i + 1), drop_some hb, hs⟩
 have := Ar.word_stop h1 h2
 rwa [← e] at this
theorem front_none {s : Bs} (h : NoSf s s.length) : Ar.word s = s ∧ Ar.rest s = [] := by
 have h1 : ∀ c, c ∈ s → Ar.sgn c = false := fun c hc => by
  obtain ⟨j, hj, e2⟩ := List.mem_iff_getElem.1 hc
  exact h j c hj (by rw [← e2]; exact List.getElem?_eq_getElem _)
 have := Ar.word_stop h1 (.inl rfl : Ar.Stop [])
 rwa [List.append_nil] at this
theorem signs_at {k : Nat} {c : UInt8} (h : Ar.signs[k]? = some c) : Ar.sgn c = true := by
 rw [← Ar.sgn_signs, List.contains_iff_mem]
 exact List.mem_of_getElem? h
theorem signs_none {c : UInt8} (h : ∀ (k : Nat), k < 8 → Ar.signs[k]? ≠ some c) : Ar.sgn c = false := by
 rw [← Ar.sgn_signs]
 cases hc : Ar.signs.contains c with
 | false => rfl
 | true =>
  rw [List.contains_iff_mem] at hc
  obtain ⟨k, hk, e⟩ := List.mem_iff_getElem.1 hc
  exact absurd (by rw [← e]; exact List.getElem?_eq_getElem hk) (h k hk)
set_option maxRecDepth 100000 in
theorem front_any (s : Bs) (w : World) (hl : s.length ≤ 1099511627776) : Calls Tryz.prog 95 #[.string (bts s), .string (bts Ar.signs)] w fun e w' => e = .returned (.tuple #[.string (bts (Ar.word s)), .string (bts (Ar.rest s))]) ∧ Below w.heap.size w w' := by
 obtain ⟨S, hS⟩ : ∃ S, bts s = S := ⟨_, rfl⟩
 obtain ⟨G, hG⟩ : ∃ S, bts Ar.signs = S := ⟨_, rfl⟩
 obtain ⟨n, hn⟩ : ∃ n, S.size = n := ⟨_, rfl⟩
 have hns : s.length = n := by rw [← hn, ← hS, bts_size]
 have hG8 : G.size = 8 := by rw [← hG]; rfl
 have HS := hid hS
 have HG := hid hG
 have HNS := hid hns
 have HN := hid hn
 have HG8 := hid hG8
 obtain ⟨A, hA⟩ : ∃ A, bts (Ar.word s) = A := ⟨_, rfl⟩
 obtain ⟨R, hR⟩ : ∃ A, bts (Ar.rest s) = A := ⟨_, rfl⟩
 have HA := hid hA
 have HR := hid hR
 have hnI : (n : Int) ≤ 1099511627776 := by omega
 rw [hA, hR, hS, hG]
 clear hS hG hns hA hR hl
 go_enter Tryz.func95, Tryz.ntmps95
 go_wp2_with fail
 clear hn hG8
 go_loopg [10] n (fun g y wr => ∃ i : Nat, i + g = n ∧ y = .int .i64 (i : Int) ∧ Hid (NoSf s i) ∧ Hid (Below w.heap.size w wr))
 case atStart => exact ⟨0, by omega, rfl, hid (fun j b hj => absurd hj (by omega)), hid (Below.refl _ _)⟩
 case round =>
  obtain ⟨i, hig, rfl, HNO, HB⟩ := hrel
  have HIG := hid hig
  clear hig
  by_cases hin : i < n
  ·have hi : i < S.size := by rw [HN.out]; exact hin
   obtain ⟨x, hx⟩ : ∃ x, s[i]? = some x := ⟨_, List.getElem?_eq_getElem (by rw [HNS.out]; exact hin)⟩
   have hc1 : S[i]'hi = x := lst_at (s := S) (by rw [← HS.out, lst_bts]; exact hx) hi
   have HX := hid hx
   have HIN := hid hin
   have hi1 : (0 : Int) ≤ (i : Int) := by omega
   have hi2 : (i : Int) < (n : Int) := by omega
   have hi3 : (i : Int) ≤ (n : Int) := by omega
   have hsz : S.size = n := HN.out
   have hgz : G.size = 8 := HG8.out
   clear hx hin
   go_wp2_with fail
   clear hsz hgz
   go_loopg [15] 8 (fun g y wr2 => ∃ k : Nat, k + g = 8 ∧ y = .int .i64 (k : Int) ∧ Hid (∀ j, j < k → Ar.signs[j]? ≠ some x) ∧ Hid (Below w.heap.size w wr2))
   case atStart => exact ⟨0, by omega, rfl, hid (fun j hj => absurd hj (by omega)), HB⟩
   case round =>
    obtain ⟨k, hk, rfl, HK, HB2⟩ := hrel
    have HKG := hid hk
    clear hk
    by_cases hk8 : k < 8
    ·have hkG : k < G.size := by rw [HG8.out]; exact hk8
     obtain ⟨y, hy⟩ : ∃ y, Ar.signs[k]? = some y := ⟨_, List.getElem?_eq_getElem hk8⟩
     have hc2 : G[k]'hkG = y := lst_at (s := G) (by rw [← HG.out, lst_bts]; exact hy) hkG
     have HY := hid hy
     have hk1 : (0 : Int) ≤ (k : Int) := by omega
     have hk2 : (k : Int) < 8 := by omega
     have HK8 := hid hk8
     have hsz : S.size = n := HN.out
     have hgz : G.size = 8 := HG8.out
     by_cases hxy : x = y
     ·have hcmp : ((x.toNat : Int) == (y.toNat : Int)) = true := by rw [hxy]; simp
      have HH := hid (front_hit HNO.out HX.out (by rw [hxy]; exact signs_at hy))
      have hx1 : S.extract 0 i = A := by rw [← HA.out, ← HS.out, HH.out.1]; exact Nr.ext_take s i
      have hx2 : S.extract i n = R := by rw [← HR.out, ← HS.out, HH.out.2, ← HNS.out]; exact Nr.ext_drop s i
      clear hy hk8 hxy
      go_wp2_with fail
      go_quiet (fail)
      go_wp2_with fail
      go_quiet (fail)
      go_wp2_with fail
      go_ret2
      exact ⟨rfl, below_drewN (below_drewN HB2.out _) _⟩
     ·have hcmp : ((x.toNat : Int) == (y.toNat : Int)) = false := by
       simp only [beq_eq_false_iff_ne]
       intro e
       exact hxy (UInt8.toNat_inj.1 (by omega))
      have HK2 : Hid (∀ j, j < k + 1 → Ar.signs[j]? ≠ some x) := hid (fun j hj e => by
       rcases Nat.lt_or_ge j k with h | h
       ·exact HK.out j h e
       ·obtain rfl : j = k := by omega
        rw [HY.out] at e; cases e; exact hxy rfl)
      clear hy hk8 hxy
      go_wp2_with fail
      go_quiet (fail)
      go_wp2_with fail
      go_roundg (8 - (k + 1))
      case measure => (have := HKG.out; have := HK8.out; omega)
      case rel => exact ⟨k + 1, by have := HKG.out; have := HK8.out; omega, by simp, HK2, hid (below_drewN HB2.out _)⟩
    ·obtain rfl : k = 8 := by have := HKG.out; omega
     have HN2 : Hid (NoSf s (i + 1)) := hid (fun j b hj hb => by
      rcases Nat.lt_or_ge j i with h | h
      ·exact HNO.out j b h hb
      ·obtain rfl : j = i := by omega
       rw [HX.out] at hb; cases hb
       exact signs_none HK.out)
     clear hk8
     go_wp2_with fail
     go_roundg (n - (i + 1))
     case measure => (have := HIG.out; have := HIN.out; omega)
     case rel => exact ⟨i + 1, by have := HIG.out; have := HIN.out; omega, by simp, HN2, HB2⟩
  ·obtain rfl : i = n := by have := HIG.out; omega
   have HH := hid (front_none (s := s) (by rw [HNS.out]; exact HNO.out))
   have e1 : Hid (S = A) := hid (by rw [← HA.out, HH.out.1, HS.out])
   have e2 : Hid ((⟨#[]⟩ : ByteArray) = R) := hid (by rw [← HR.out, HH.out.2]; rfl)
   clear hin
   go_wp2_with fail
   go_ret2
   exact ⟨by rw [← e1.out, ← e2.out]; rfl, HB.out⟩
end Go.Proofs.YtkemlckmfgacdaaGreatDoor
