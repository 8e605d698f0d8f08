/- Contract: SameJob where both are one job. -/
import Derived.Test.YtkemlckmfgacdaaGreatDoorJobP9
import Derived.Test.YtkemlckmfgacdaaGreatDoorJobP1
import Derived.Deep.LoopGhost
import Derived.Test.YtkemlckmfgacdaaGreatDoorJobP10
import Derived.Deep.CutBlock
import Derived.Deep.DeepCutAuto
import Derived.Test.YtkemlckmfgacdaaGreatDoorJobP0
import Derived.Deep.Slices
import Derived.Lib.SmallJoins
import Derived.SizedLaws
import Derived.Test.YtkemlckmfgacdaaGreatDoorRows
import Derived.Deep.MidRow
import Derived.ChangeMaps5
import Derived.Test.YtkemlckmfgacdaaGreatDoorJobP3
import Derived.Stop.LaidErr
import Derived.LaidLaws
namespace Go.Proofs.YtkemlckmfgacdaaGreatDoor
open Go.ChangeShapes Go.WideShapes Go.ChangeAt Go.RowKit
set_option linter.unusedVariables false
set_option linter.unusedSimpArgs false
open Tp Jm
set_option maxRecDepth 20000 in
set_option maxHeartbeats 8000000 in
theorem sameInts_same (l : List Int) (a1 a2 : Option Addr) (n c1 c2 : Nat) (w : World) (hn : l.length = n) (hm : n ≤ 9223372036854775807) (hA : Vals w a1 (ints l)) (hB : Vals w a2 (ints l)) : Calls Tryz.prog 49 #[.slice a1 n c1, .slice a2 n c2] w fun e w' => e = .returned (.bool true) ∧ Below w.heap.size w w' := by
  have HA := Lib.hid hA
  have HB := Lib.hid hB
  have HN := Lib.hid hn
  have hnn : ((n : Int) != (n : Int)) = false := by simp
  clear hA hB hn
  go_enter Tryz.func49, Tryz.ntmps49
  go_wp2_with fail
  go_loopg [13] n (fun g x wr => ∃ k : Nat, k + g = n ∧ x = .int .i64 (k : Int) ∧ Hid (Below w.heap.size w wr))
  case atStart => exact ⟨0, by omega, rfl, Lib.hid (Below.refl _ _)⟩
  case round =>
    obtain ⟨k, hk, rfl, HW⟩ := hrel
    have HK := Lib.hid hk
    by_cases hkn : k < n
    · obtain ⟨m, hm1⟩ : ∃ m, l[k]? = some m := ⟨_, List.getElem?_eq_getElem (by rw [HN.out]; exact hkn)⟩
      obtain ⟨b1, o1, rfl, hbl1, hc1⟩ := aft_cell (HA.out.below HW.out (Nat.le_refl _)) hm1
      obtain ⟨b2, o2, rfl, hbl2, hc2⟩ := aft_cell (HB.out.below HW.out (Nat.le_refl _)) hm1
      have d1 := hc1 k m hm1
      have d2 := hc2 k m hm1
      have hk1 : (0 : Int) ≤ (k : Int) := by omega
      have hk2 : (k : Int) < (n : Int) := by omega
      have hmm : (m != m) = false := by simp
      clear hm1 hc1 hc2 hk
      go_upto_region 6 with fail
      go_quiet (fail)
      have HW2 : Hid (∀ q, Below w.heap.size w (wr.drewN q)) := Lib.hid (fun q => below_drewN HW.out q)
      go_wp2_with fail
      go_roundg (n - (k + 1))
      case measure => (have := HK.out; omega)
      case rel => exact ⟨k + 1, by have := HK.out; omega, by simp, Lib.hid (HW2.out _)⟩
    · have hk2 : ¬ (k : Int) < (n : Int) := by omega
      clear hk hkn
      go_wp2_with fail
      go_ret
      exact ⟨rfl, HW.out⟩
set_option maxRecDepth 20000 in
set_option maxHeartbeats 8000000 in
theorem sameJob_same (j : Jb) (v v' : Value) (w : World) (hv : JobV w j v) (hv' : JobV w j v') : Calls Tryz.prog 12 #[v, v'] w fun e w' => e = .returned (.bool true) ∧ Below w.heap.size w w' := by
  obtain ⟨x0, x1, x2, x3, xd, xl, xc, aa, ac, rfl, hp⟩ := hv
  obtain ⟨z0, z1, z2, z3, zd, zl, zc, za, zc2, rfl, hp'⟩ := hv'
  unfold jobVal
  obtain ⟨u, P, a, b, c, x, l⟩ := j
  simp only at hp hp' ⊢
  obtain ⟨U, hU⟩ : ∃ U, bts u = U := ⟨_, rfl⟩
  obtain ⟨n, hn⟩ : ∃ n, l.length = n := ⟨_, rfl⟩
  rw [hU, hn]
  obtain ⟨B, hB⟩ : ∃ B, B = w.heap.size := ⟨_, rfl⟩
  obtain ⟨W1, hW1⟩ : ∃ W, W = w.alloc (.cells #[.string U, .int .i64 P, .int .i64 a, .int .i64 b, .int .i64 c, .int .i64 x0, .string x1, .string x2, .int .i64 x3, .slice xd xl xc, .slice aa n ac] 29) := ⟨_, rfl⟩
  obtain ⟨B2, hB2⟩ : ∃ B, B = W1.heap.size := ⟨_, rfl⟩
  obtain ⟨W0, hW0⟩ : ∃ W, W = W1.alloc (.cells #[.string U, .int .i64 P, .int .i64 a, .int .i64 b, .int .i64 c, .int .i64 z0, .string z1, .string z2, .int .i64 z3, .slice zd zl zc, .slice za n zc2] 29) := ⟨_, rfl⟩
  have hb1 : Below w.heap.size w W1 := by rw [hW1]; exact (Below.refl _ _).alloc (Nat.le_refl _) _
  have hb2 : Below W1.heap.size W1 W0 := by rw [hW0]; exact (Below.refl _ _).alloc (Nat.le_refl _) _
  have HB0 := Lib.hid (hb1.trans (hb2.mono hb1.size))
  have HX1 : Hid (BoxV B [.string U, .int .i64 P, .int .i64 a, .int .i64 b, .int .i64 c, .int .i64 x0, .string x1, .string x2, .int .i64 x3, .slice xd xl xc, .slice aa n ac] W0) := Lib.hid ((by rw [hW1]; exact BoxV.top _ hB : BoxV B [.string U, .int .i64 P, .int .i64 a, .int .i64 b, .int .i64 c, .int .i64 x0, .string x1, .string x2, .int .i64 x3, .slice xd xl xc, .slice aa n ac] W1).step hb2)
  have HX2 : Hid (BoxV B2 [.string U, .int .i64 P, .int .i64 a, .int .i64 b, .int .i64 c, .int .i64 z0, .string z1, .string z2, .int .i64 z3, .slice zd zl zc, .slice za n zc2] W0) := Lib.hid (by rw [hW0]; exact BoxV.top _ hB2)
  have HSA : Hid (∀ W, Below w.heap.size w W → Calls Tryz.prog 48 #[.agg #[.int .i64 x0, .string x1, .string x2, .int .i64 x3, .slice xd xl xc], .agg #[.int .i64 z0, .string z1, .string z2, .int .i64 z3, .slice zd zl zc]] W fun e w' => e = .returned (.bool true) ∧ Below W.heap.size W w') := Lib.hid (fun W h => same_any x _ _ W (AskV.below h _ _ hp.ask) (AskV.below h _ _ hp'.ask))
  have HSI : Hid (∀ W, Below w.heap.size w W → Calls Tryz.prog 49 #[.slice aa n ac, .slice za n zc2] W fun e w' => e = .returned (.bool true) ∧ Below W.heap.size W w') := Lib.hid (fun W h => sameInts_same l aa za n ac zc2 W hn (by have := hp.len; have := hp.cap; simp only at *; omega) (hp.aft.below h (Nat.le_refl _)) (hp'.aft.below h (Nat.le_refl _)))
  have hsU : (U.toList == U.toList) = true := by simp
  have hB2' : B2 = B + 1 := by rw [hB2, hW1, hB]; simp
  clear hb1 hb2 hp hp' hU hn
  go_enter Tryz.func12, Tryz.ntmps12
  go_upto_region 1 with fail
  rw [← hB, ← hW1, ← hW0, ← hB2']
  clear hW0 hW1 hB hB2 hB2'
  have c0 := HX1.out.cell 0 _ rfl
  have c1 := HX1.out.cell 1 _ rfl
  have c2 := HX1.out.cell 2 _ rfl
  have c3 := HX1.out.cell 3 _ rfl
  have c4 := HX1.out.cell 4 _ rfl
  have c5 := HX1.out.cell 5 _ rfl
  have c6 := HX1.out.cell 6 _ rfl
  have c7 := HX1.out.cell 7 _ rfl
  have c8 := HX1.out.cell 8 _ rfl
  have c9 := HX1.out.cell 9 _ rfl
  have c10 := HX1.out.cell 10 _ rfl
  have e0 := HX2.out.cell 0 _ rfl
  have e1 := HX2.out.cell 1 _ rfl
  have e2 := HX2.out.cell 2 _ rfl
  have e3 := HX2.out.cell 3 _ rfl
  have e4 := HX2.out.cell 4 _ rfl
  have e5 := HX2.out.cell 5 _ rfl
  have e6 := HX2.out.cell 6 _ rfl
  have e7 := HX2.out.cell 7 _ rfl
  have e8 := HX2.out.cell 8 _ rfl
  have e9 := HX2.out.cell 9 _ rfl
  have e10 := HX2.out.cell 10 _ rfl
  have hl1 := HX1.out.lt
  have hl2 := HX2.out.lt
  go_wp2_with fail
  refine Calls.mono (HSA.out W0 HB0.out) ?_
  rintro e W2 ⟨rfl, hbn⟩
  have HB2 := Lib.hid (HB0.out.trans (hbn.mono HB0.out.size))
  replace c0 := (hbn.cell (p := ⟨B, 0, none⟩) hl1).trans c0
  replace c1 := (hbn.cell (p := ⟨B, 1, none⟩) hl1).trans c1
  replace c2 := (hbn.cell (p := ⟨B, 2, none⟩) hl1).trans c2
  replace c3 := (hbn.cell (p := ⟨B, 3, none⟩) hl1).trans c3
  replace c4 := (hbn.cell (p := ⟨B, 4, none⟩) hl1).trans c4
  replace c5 := (hbn.cell (p := ⟨B, 5, none⟩) hl1).trans c5
  replace c6 := (hbn.cell (p := ⟨B, 6, none⟩) hl1).trans c6
  replace c7 := (hbn.cell (p := ⟨B, 7, none⟩) hl1).trans c7
  replace c8 := (hbn.cell (p := ⟨B, 8, none⟩) hl1).trans c8
  replace c9 := (hbn.cell (p := ⟨B, 9, none⟩) hl1).trans c9
  replace c10 := (hbn.cell (p := ⟨B, 10, none⟩) hl1).trans c10
  replace e0 := (hbn.cell (p := ⟨B2, 0, none⟩) hl2).trans e0
  replace e1 := (hbn.cell (p := ⟨B2, 1, none⟩) hl2).trans e1
  replace e2 := (hbn.cell (p := ⟨B2, 2, none⟩) hl2).trans e2
  replace e3 := (hbn.cell (p := ⟨B2, 3, none⟩) hl2).trans e3
  replace e4 := (hbn.cell (p := ⟨B2, 4, none⟩) hl2).trans e4
  replace e5 := (hbn.cell (p := ⟨B2, 5, none⟩) hl2).trans e5
  replace e6 := (hbn.cell (p := ⟨B2, 6, none⟩) hl2).trans e6
  replace e7 := (hbn.cell (p := ⟨B2, 7, none⟩) hl2).trans e7
  replace e8 := (hbn.cell (p := ⟨B2, 8, none⟩) hl2).trans e8
  replace e9 := (hbn.cell (p := ⟨B2, 9, none⟩) hl2).trans e9
  replace e10 := (hbn.cell (p := ⟨B2, 10, none⟩) hl2).trans e10
  replace hl1 := Nat.lt_of_lt_of_le hl1 hbn.size
  replace hl2 := Nat.lt_of_lt_of_le hl2 hbn.size
  clear hbn
  go_wp2_with fail
  refine Calls.mono (HSI.out W2 HB2.out) ?_
  rintro e W3 ⟨rfl, hbn⟩
  have HB3 := Lib.hid (HB2.out.trans (hbn.mono HB2.out.size))
  clear hbn
  go_wp2_with fail
  go_ret
  exact ⟨rfl, HB3.out⟩
end Go.Proofs.YtkemlckmfgacdaaGreatDoor
/- The law JobTells: walked. -/
namespace Go.Proofs.YtkemlckmfgacdaaGreatDoor
open Go.ChangeShapes Go.WideShapes Go.ChangeAt Go.RowKit
set_option linter.unusedVariables false
set_option linter.unusedSimpArgs false
open Tp Jm
/-- a job that is nothing -/
def zJ : Jb := ⟨[], 0, 0, 0, 0, zA, []⟩
theorem zJ_v (w : World) : JobV w zJ (jobVal ⟨#[]⟩ 0 0 0 0 0 ⟨#[]⟩ ⟨#[]⟩ 0 none 0 0 none 0 0) := ⟨_, _, _, _, _, _, _, _, _, rfl, zA_v w, Vals.nil _ _, by simp [zJ], by simp [zJ], by omega⟩
theorem JobV.form {w : World} {j : Jb} {v : Value} (h : JobV w j v) : ∃ (yu : ByteArray) (yp ya yb yc y0 : Int) (y1 y2 : ByteArray) (y3 : Int) (yd : Option Addr) (yl yc2 : Nat) (ye : Option Addr) (yn ym : Nat), v = .agg #[.string yu, .int .i64 yp, .int .i64 ya, .int .i64 yb, .int .i64 yc, .int .i64 y0, .string y1, .string y2, .int .i64 y3, .slice yd yl yc2, .slice ye yn ym] := by
  obtain ⟨x0, x1, x2, x3, xd, xl, xc, aa, ac, e, _⟩ := h
  exact ⟨_, _, _, _, _, _, _, _, _, _, _, _, _, _, _, e⟩
theorem JobRdQ.form {w w' : World} {O : Option Jb} {cd : Int} {e : Ending} (h : JobRdQ w O cd e w') : Below w.heap.size w w' ∧ ∃ (yu : ByteArray) (yp ya yb yc y0 : Int) (y1 y2 : ByteArray) (y3 : Int) (yd : Option Addr) (yl yc2 : Nat) (ye : Option Addr) (yn ym : Nat) (ec : Int), e = .returned (.tuple #[.agg #[.string yu, .int .i64 yp, .int .i64 ya, .int .i64 yb, .int .i64 yc, .int .i64 y0, .string y1, .string y2, .int .i64 y3, .slice yd yl yc2, .slice ye yn ym], .int .i64 ec]) ∧ (ec = if O.isSome then 0 else cd) ∧ JobV w' (O.getD zJ) (.agg #[.string yu, .int .i64 yp, .int .i64 ya, .int .i64 yb, .int .i64 yc, .int .i64 y0, .string y1, .string y2, .int .i64 y3, .slice yd yl yc2, .slice ye yn ym]) := by
  obtain ⟨hb, h⟩ := h
  cases O with
  | none => exact ⟨hb, _, _, _, _, _, _, _, _, _, _, _, _, _, _, _, cd, h, rfl, zJ_v w'⟩
  | some j =>
    obtain ⟨v, h1, h2⟩ := h
    obtain ⟨yu, yp, ya, yb, yc, y0, y1, y2, y3, yd, yl, yc2, ye, yn, ym, rfl⟩ := h2.form
    exact ⟨hb, _, _, _, _, _, _, _, _, _, _, _, _, _, _, _, 0, h1, rfl, h2⟩
theorem own_few {num : Bs → Option Int} {askr : Bs → Option Ask} {s : Bs} (h : (Nt.pcs 32 s).length ≠ 5) : own (parse num askr s) s = none := by
  unfold parse
  split
  · rename_i e; rw [e] at h; exact absurd rfl h
  · rfl
theorem five_pcs {l : List Bs} (h : l.length = 5) : ∃ u p n f x, l = [u, p, n, f, x] := by
  match l, h with
  | [u, p, n, f, x], _ => exact ⟨u, p, n, f, x, rfl⟩
/-- the program's Read at every text -/
theorem jobRead_any (s : Bs) (w : World) (he : Env w) : Calls Tryz.prog 7 #[.string (bts s)] w (JobRdQ w (if 3000 < s.length then none else rdA s) (if 3000 < s.length then 2 else 3)) := by
  by_cases hl : 3000 < s.length
  · rw [if_pos hl, if_pos hl]; exact jobRead_long s w hl
  rw [if_neg hl, if_neg hl]
  by_cases h5 : (Nt.pcs 32 s).length = 5
  · obtain ⟨u, p, n, f, x, e⟩ := five_pcs h5
    exact jobRead_five s w (by omega) he e
  · rw [show rdA s = none from own_few h5]
    exact jobRead_few s w (by omega) he h5
theorem jobReadR_any (s : Bs) (w : World) (h : s.length ≤ 400 ∨ 3000 < s.length) : Calls Tryz.prog 11 #[.string (bts s)] w (JobRdQ w (if 3000 < s.length then none else rdA s) (if 3000 < s.length then 2 else 3)) := by
  by_cases hl : 3000 < s.length
  · rw [if_pos hl, if_pos hl]; exact jobReadR_long s w hl
  rw [if_neg hl, if_neg hl, rd_same (by omega)]
  by_cases h5 : (Nt.pcs 32 s).length = 5
  · obtain ⟨u, p, n, f, x, e⟩ := five_pcs h5
    exact jobReadR_five s w (by omega) e
  · rw [show rdR s = none from own_few h5]
    exact jobReadR_few s w (by omega) h5
set_option maxRecDepth 20000 in
set_option maxHeartbeats 16000000 in
theorem jobLaw_any (j : Jb) (v : Value) (s : Bs) (w : World) (hs : j.ask.size ≤ 1000000000) (he : Env w) (hv : JobV w j v) : Calls Tryz.prog 3 #[v, .string (bts s)] w fun e w' => e = .returned (.bool true) ∧ Below w.heap.size w w' := by
  have HV : Hid (∀ W, Below w.heap.size w W → JobV W j v) := Lib.hid (fun W h => hv.below h)
  obtain ⟨xu, xp, xa, xb, xc, x0, x1, x2, x3, xd, xl, xc2, xe, xn, xm, rfl⟩ := hv.form
  obtain ⟨B, hB⟩ : ∃ B, B = w.heap.size := ⟨_, rfl⟩
  obtain ⟨W0, hW0⟩ : ∃ W, W = w.alloc (.cells #[.string xu, .int .i64 xp, .int .i64 xa, .int .i64 xb, .int .i64 xc, .int .i64 x0, .string x1, .string x2, .int .i64 x3, .slice xd xl xc2, .slice xe xn xm] 29) := ⟨_, rfl⟩
  have hb0 : Below w.heap.size w W0 := by rw [hW0]; exact (Below.refl _ _).alloc (Nat.le_refl _) _
  have HX0 : Hid (BoxV B [.string xu, .int .i64 xp, .int .i64 xa, .int .i64 xb, .int .i64 xc, .int .i64 x0, .string x1, .string x2, .int .i64 x3, .slice xd xl xc2, .slice xe xn xm] W0) := Lib.hid (by rw [hW0]; exact BoxV.top _ hB)
  have HB0 := Lib.hid hb0
  have HEV : Hid (∀ W, Below w.heap.size w W → Env W) := Lib.hid (fun W h => he.below h (Nat.le_refl _))
  obtain ⟨f, hf⟩ : ∃ f, j.fault = f := ⟨_, rfl⟩
  obtain ⟨T, hT⟩ : ∃ T, jobTxt j = T := ⟨_, rfl⟩
  have HF := Lib.hid hf
  have HT := Lib.hid hT
  have HTX := Lib.hid (fun W (h : Below w.heap.size w W) => jobText_any j _ W hs (HEV.out W h) (HV.out W h))
  have HRF := Lib.hid (fun W (h : Below w.heap.size w W) => jobFault_any j _ W hs (HV.out W h))
  have HCK := Lib.hid (fun W (h : Below w.heap.size w W) => jobCheck_any j _ W hs (HV.out W h))
  have HRD := Lib.hid (fun W (h : Below w.heap.size w W) => jobRead_any s W (HEV.out W h))
  have HRR := Lib.hid (fun (h : s.length ≤ 400 ∨ 3000 < s.length) W => jobReadR_any s W h)
  have HRX : Hid (f = 0 → ∀ W, Below w.heap.size w W → Calls Tryz.prog 10 #[.agg #[.string xu, .int .i64 xp, .int .i64 xa, .int .i64 xb, .int .i64 xc, .int .i64 x0, .string x1, .string x2, .int .i64 x3, .slice xd xl xc2, .slice xe xn xm]] W fun e w' => e = .returned (.string T) ∧ Below W.heap.size W w') := Lib.hid (fun h0 W h => by
    have hf0 : j.fault = 0 := hf.trans h0
    rw [← hT, show jobTxt j = bts j.text by unfold jobTxt; rw [if_pos hf0]]
    exact jobTextR_any j _ W hf0 (HV.out W h))
  have HTE : Hid (f ≠ 0 → T = ⟨#[]⟩) := Lib.hid (fun h => by rw [← hT]; unfold jobTxt; rw [if_neg (by rw [hf]; exact h)])
  obtain ⟨O, hO⟩ : ∃ O, (if 3000 < s.length then none else rdA s) = O := ⟨_, rfl⟩
  obtain ⟨cd, hcd⟩ : ∃ c : Int, (if 3000 < s.length then 2 else 3) = c := ⟨_, rfl⟩
  rw [hO, hcd] at HRD HRR
  obtain ⟨S, hS⟩ : ∃ S, bts s = S := ⟨_, rfl⟩
  rw [hS] at HRD HRR
  rw [hf, hT] at HTX
  rw [hf] at HRF HCK
  rw [hS]
  obtain ⟨n, hn⟩ : ∃ n, S.size = n := ⟨_, rfl⟩
  have HNS : Hid (s.length = n) := Lib.hid (by rw [← hn, ← hS, bts_size])
  clear hb0 hf hT hO hcd hS he hv hs
  go_enter Tryz.func3, Tryz.ntmps3
  go_upto_region 1 with fail
  rw [← hW0, ← hB]
  clear hW0 hB
  have b0 := HX0.out.cell 0 _ rfl
  have b1 := HX0.out.cell 1 _ rfl
  have b2 := HX0.out.cell 2 _ rfl
  have b3 := HX0.out.cell 3 _ rfl
  have b4 := HX0.out.cell 4 _ rfl
  have b5 := HX0.out.cell 5 _ rfl
  have b6 := HX0.out.cell 6 _ rfl
  have b7 := HX0.out.cell 7 _ rfl
  have b8 := HX0.out.cell 8 _ rfl
  have b9 := HX0.out.cell 9 _ rfl
  have b10 := HX0.out.cell 10 _ rfl
  have hBl := HX0.out.lt
  go_wp2_with fail
  refine Calls.mono (HTX.out W0 HB0.out) ?_
  rintro e W1 ⟨rfl, hbn⟩
  have HB1 : Hid (Below w.heap.size w W1) := Lib.hid (HB0.out.trans (hbn.mono HB0.out.size))
  replace b0 := (hbn.cell (p := ⟨B, 0, none⟩) hBl).trans b0
  replace b1 := (hbn.cell (p := ⟨B, 1, none⟩) hBl).trans b1
  replace b2 := (hbn.cell (p := ⟨B, 2, none⟩) hBl).trans b2
  replace b3 := (hbn.cell (p := ⟨B, 3, none⟩) hBl).trans b3
  replace b4 := (hbn.cell (p := ⟨B, 4, none⟩) hBl).trans b4
  replace b5 := (hbn.cell (p := ⟨B, 5, none⟩) hBl).trans b5
  replace b6 := (hbn.cell (p := ⟨B, 6, none⟩) hBl).trans b6
  replace b7 := (hbn.cell (p := ⟨B, 7, none⟩) hBl).trans b7
  replace b8 := (hbn.cell (p := ⟨B, 8, none⟩) hBl).trans b8
  replace b9 := (hbn.cell (p := ⟨B, 9, none⟩) hBl).trans b9
  replace b10 := (hbn.cell (p := ⟨B, 10, none⟩) hBl).trans b10
  replace hBl := Nat.lt_of_lt_of_le hBl hbn.size
  clear hbn
  go_wp2_with fail
  refine Calls.mono (HRD.out W1 HB1.out) ?_
  intro e W2 hq
  obtain ⟨hbn, yu, yp, ya, yb, yc, y0, y1, y2, y3, yd, yl, yc2, ye, yn, ym, ec, rfl, hec, hjv⟩ := hq.form
  have HB2 : Hid (Below w.heap.size w W2) := Lib.hid (HB1.out.trans (hbn.mono HB1.out.size))
  replace b0 := (hbn.cell (p := ⟨B, 0, none⟩) hBl).trans b0
  replace b1 := (hbn.cell (p := ⟨B, 1, none⟩) hBl).trans b1
  replace b2 := (hbn.cell (p := ⟨B, 2, none⟩) hBl).trans b2
  replace b3 := (hbn.cell (p := ⟨B, 3, none⟩) hBl).trans b3
  replace b4 := (hbn.cell (p := ⟨B, 4, none⟩) hBl).trans b4
  replace b5 := (hbn.cell (p := ⟨B, 5, none⟩) hBl).trans b5
  replace b6 := (hbn.cell (p := ⟨B, 6, none⟩) hBl).trans b6
  replace b7 := (hbn.cell (p := ⟨B, 7, none⟩) hBl).trans b7
  replace b8 := (hbn.cell (p := ⟨B, 8, none⟩) hBl).trans b8
  replace b9 := (hbn.cell (p := ⟨B, 9, none⟩) hBl).trans b9
  replace b10 := (hbn.cell (p := ⟨B, 10, none⟩) hBl).trans b10
  replace hBl := Nat.lt_of_lt_of_le hBl hbn.size
  have HJY := Lib.hid hjv
  have HEC := Lib.hid hec
  clear hbn hjv hec hq
  go_upto_region 3 with fail
  obtain ⟨W3, hW3⟩ : ∃ W, W = W2.alloc (.cells #[.string yu, .int .i64 yp, .int .i64 ya, .int .i64 yb, .int .i64 yc, .int .i64 y0, .string y1, .string y2, .int .i64 y3, .slice yd yl yc2, .slice ye yn ym] 29) := ⟨_, rfl⟩
  obtain ⟨d, hd⟩ : ∃ d, d = W2.heap.size := ⟨_, rfl⟩
  rw [← hW3, ← hd]
  have hbn : Below W2.heap.size W2 W3 := by rw [hW3]; exact (Below.refl _ _).alloc (Nat.le_refl _) _
  have HY3 : Hid (BoxV d [.string yu, .int .i64 yp, .int .i64 ya, .int .i64 yb, .int .i64 yc, .int .i64 y0, .string y1, .string y2, .int .i64 y3, .slice yd yl yc2, .slice ye yn ym] W3) := Lib.hid (by rw [hW3]; exact BoxV.top _ hd)
  have HB3 : Hid (Below w.heap.size w W3) := Lib.hid (HB2.out.trans (hbn.mono HB2.out.size))
  replace b0 := (hbn.cell (p := ⟨B, 0, none⟩) hBl).trans b0
  replace b1 := (hbn.cell (p := ⟨B, 1, none⟩) hBl).trans b1
  replace b2 := (hbn.cell (p := ⟨B, 2, none⟩) hBl).trans b2
  replace b3 := (hbn.cell (p := ⟨B, 3, none⟩) hBl).trans b3
  replace b4 := (hbn.cell (p := ⟨B, 4, none⟩) hBl).trans b4
  replace b5 := (hbn.cell (p := ⟨B, 5, none⟩) hBl).trans b5
  replace b6 := (hbn.cell (p := ⟨B, 6, none⟩) hBl).trans b6
  replace b7 := (hbn.cell (p := ⟨B, 7, none⟩) hBl).trans b7
  replace b8 := (hbn.cell (p := ⟨B, 8, none⟩) hBl).trans b8
  replace b9 := (hbn.cell (p := ⟨B, 9, none⟩) hBl).trans b9
  replace b10 := (hbn.cell (p := ⟨B, 10, none⟩) hBl).trans b10
  replace hBl := Nat.lt_of_lt_of_le hBl hbn.size
  have a0 := HY3.out.cell 0 _ rfl
  have a1 := HY3.out.cell 1 _ rfl
  have a2 := HY3.out.cell 2 _ rfl
  have a3 := HY3.out.cell 3 _ rfl
  have a4 := HY3.out.cell 4 _ rfl
  have a5 := HY3.out.cell 5 _ rfl
  have a6 := HY3.out.cell 6 _ rfl
  have a7 := HY3.out.cell 7 _ rfl
  have a8 := HY3.out.cell 8 _ rfl
  have a9 := HY3.out.cell 9 _ rfl
  have a10 := HY3.out.cell 10 _ rfl
  have hdl := HY3.out.lt
  have H23 := Lib.hid hbn
  clear hbn hW3 hd
  go_wp2_with fail
  refine Calls.mono (HRF.out W3 HB3.out) ?_
  rintro e W4 ⟨rfl, hbn⟩
  have HB4 : Hid (Below w.heap.size w W4) := Lib.hid (HB3.out.trans (hbn.mono HB3.out.size))
  replace b0 := (hbn.cell (p := ⟨B, 0, none⟩) hBl).trans b0
  replace b1 := (hbn.cell (p := ⟨B, 1, none⟩) hBl).trans b1
  replace b2 := (hbn.cell (p := ⟨B, 2, none⟩) hBl).trans b2
  replace b3 := (hbn.cell (p := ⟨B, 3, none⟩) hBl).trans b3
  replace b4 := (hbn.cell (p := ⟨B, 4, none⟩) hBl).trans b4
  replace b5 := (hbn.cell (p := ⟨B, 5, none⟩) hBl).trans b5
  replace b6 := (hbn.cell (p := ⟨B, 6, none⟩) hBl).trans b6
  replace b7 := (hbn.cell (p := ⟨B, 7, none⟩) hBl).trans b7
  replace b8 := (hbn.cell (p := ⟨B, 8, none⟩) hBl).trans b8
  replace b9 := (hbn.cell (p := ⟨B, 9, none⟩) hBl).trans b9
  replace b10 := (hbn.cell (p := ⟨B, 10, none⟩) hBl).trans b10
  replace hBl := Nat.lt_of_lt_of_le hBl hbn.size
  replace a0 := (hbn.cell (p := ⟨d, 0, none⟩) hdl).trans a0
  replace a1 := (hbn.cell (p := ⟨d, 1, none⟩) hdl).trans a1
  replace a2 := (hbn.cell (p := ⟨d, 2, none⟩) hdl).trans a2
  replace a3 := (hbn.cell (p := ⟨d, 3, none⟩) hdl).trans a3
  replace a4 := (hbn.cell (p := ⟨d, 4, none⟩) hdl).trans a4
  replace a5 := (hbn.cell (p := ⟨d, 5, none⟩) hdl).trans a5
  replace a6 := (hbn.cell (p := ⟨d, 6, none⟩) hdl).trans a6
  replace a7 := (hbn.cell (p := ⟨d, 7, none⟩) hdl).trans a7
  replace a8 := (hbn.cell (p := ⟨d, 8, none⟩) hdl).trans a8
  replace a9 := (hbn.cell (p := ⟨d, 9, none⟩) hdl).trans a9
  replace a10 := (hbn.cell (p := ⟨d, 10, none⟩) hdl).trans a10
  replace hdl := Nat.lt_of_lt_of_le hdl hbn.size
  have H24 := Lib.hid (H23.out.trans (hbn.mono H23.out.size))
  clear hbn
  go_upto_region 4 with fail
  go_cut [50] (fun v W => v = .bool false ∧ Hid (Below W4.heap.size W4 W))
  case first =>
    by_cases h0 : f = 0
    · subst h0
      have HRX2 := Lib.hid (HRX.out rfl)
      go_wp2_with fail
      refine Calls.mono (HCK.out W4 HB4.out) ?_
      rintro e W5 ⟨rfl, hbn⟩
      have HB5 : Hid (Below w.heap.size w W5) := Lib.hid (HB4.out.trans (hbn.mono HB4.out.size))
      replace b0 := (hbn.cell (p := ⟨B, 0, none⟩) hBl).trans b0
      replace b1 := (hbn.cell (p := ⟨B, 1, none⟩) hBl).trans b1
      replace b2 := (hbn.cell (p := ⟨B, 2, none⟩) hBl).trans b2
      replace b3 := (hbn.cell (p := ⟨B, 3, none⟩) hBl).trans b3
      replace b4 := (hbn.cell (p := ⟨B, 4, none⟩) hBl).trans b4
      replace b5 := (hbn.cell (p := ⟨B, 5, none⟩) hBl).trans b5
      replace b6 := (hbn.cell (p := ⟨B, 6, none⟩) hBl).trans b6
      replace b7 := (hbn.cell (p := ⟨B, 7, none⟩) hBl).trans b7
      replace b8 := (hbn.cell (p := ⟨B, 8, none⟩) hBl).trans b8
      replace b9 := (hbn.cell (p := ⟨B, 9, none⟩) hBl).trans b9
      replace b10 := (hbn.cell (p := ⟨B, 10, none⟩) hBl).trans b10
      replace hBl := Nat.lt_of_lt_of_le hBl hbn.size
      have H45 := Lib.hid hbn
      clear hbn
      go_wp2_with fail
      refine Calls.mono (HRX2.out W5 HB5.out) ?_
      rintro e W6 ⟨rfl, hbn⟩
      have HB6 : Hid (Below w.heap.size w W6) := Lib.hid (HB5.out.trans (hbn.mono HB5.out.size))
      replace b0 := (hbn.cell (p := ⟨B, 0, none⟩) hBl).trans b0
      replace b1 := (hbn.cell (p := ⟨B, 1, none⟩) hBl).trans b1
      replace b2 := (hbn.cell (p := ⟨B, 2, none⟩) hBl).trans b2
      replace b3 := (hbn.cell (p := ⟨B, 3, none⟩) hBl).trans b3
      replace b4 := (hbn.cell (p := ⟨B, 4, none⟩) hBl).trans b4
      replace b5 := (hbn.cell (p := ⟨B, 5, none⟩) hBl).trans b5
      replace b6 := (hbn.cell (p := ⟨B, 6, none⟩) hBl).trans b6
      replace b7 := (hbn.cell (p := ⟨B, 7, none⟩) hBl).trans b7
      replace b8 := (hbn.cell (p := ⟨B, 8, none⟩) hBl).trans b8
      replace b9 := (hbn.cell (p := ⟨B, 9, none⟩) hBl).trans b9
      replace b10 := (hbn.cell (p := ⟨B, 10, none⟩) hBl).trans b10
      replace hBl := Nat.lt_of_lt_of_le hBl hbn.size
      have H46 := Lib.hid (H45.out.trans (hbn.mono H45.out.size))
      clear hbn
      go_wp2_with fail
      go_meet
      exact ⟨rfl, H46⟩
    · have hz : (f == 0) = false := by simpa using h0
      have hz2 : (f != 0) = true := by simpa using h0
      obtain rfl : T = ⟨#[]⟩ := HTE.out h0
      clear h0
      go_wp2_with fail
      refine Calls.mono (HCK.out W4 HB4.out) ?_
      rintro e W5 ⟨rfl, hbn⟩
      have HB5 : Hid (Below w.heap.size w W5) := Lib.hid (HB4.out.trans (hbn.mono HB4.out.size))
      replace b0 := (hbn.cell (p := ⟨B, 0, none⟩) hBl).trans b0
      replace b1 := (hbn.cell (p := ⟨B, 1, none⟩) hBl).trans b1
      replace b2 := (hbn.cell (p := ⟨B, 2, none⟩) hBl).trans b2
      replace b3 := (hbn.cell (p := ⟨B, 3, none⟩) hBl).trans b3
      replace b4 := (hbn.cell (p := ⟨B, 4, none⟩) hBl).trans b4
      replace b5 := (hbn.cell (p := ⟨B, 5, none⟩) hBl).trans b5
      replace b6 := (hbn.cell (p := ⟨B, 6, none⟩) hBl).trans b6
      replace b7 := (hbn.cell (p := ⟨B, 7, none⟩) hBl).trans b7
      replace b8 := (hbn.cell (p := ⟨B, 8, none⟩) hBl).trans b8
      replace b9 := (hbn.cell (p := ⟨B, 9, none⟩) hBl).trans b9
      replace b10 := (hbn.cell (p := ⟨B, 10, none⟩) hBl).trans b10
      replace hBl := Nat.lt_of_lt_of_le hBl hbn.size
      have H45 := Lib.hid hbn
      clear hbn
      go_wp2_with fail
      go_meet
      exact ⟨rfl, H45⟩
  case rest =>
    obtain ⟨rfl, HBc⟩ := hcut
    have hbn := HBc.out
    have HB5 : Hid (Below w.heap.size w wc) := Lib.hid (HB4.out.trans (hbn.mono HB4.out.size))
    replace b0 := (hbn.cell (p := ⟨B, 0, none⟩) hBl).trans b0
    replace b1 := (hbn.cell (p := ⟨B, 1, none⟩) hBl).trans b1
    replace b2 := (hbn.cell (p := ⟨B, 2, none⟩) hBl).trans b2
    replace b3 := (hbn.cell (p := ⟨B, 3, none⟩) hBl).trans b3
    replace b4 := (hbn.cell (p := ⟨B, 4, none⟩) hBl).trans b4
    replace b5 := (hbn.cell (p := ⟨B, 5, none⟩) hBl).trans b5
    replace b6 := (hbn.cell (p := ⟨B, 6, none⟩) hBl).trans b6
    replace b7 := (hbn.cell (p := ⟨B, 7, none⟩) hBl).trans b7
    replace b8 := (hbn.cell (p := ⟨B, 8, none⟩) hBl).trans b8
    replace b9 := (hbn.cell (p := ⟨B, 9, none⟩) hBl).trans b9
    replace b10 := (hbn.cell (p := ⟨B, 10, none⟩) hBl).trans b10
    replace hBl := Nat.lt_of_lt_of_le hBl hbn.size
    replace a0 := (hbn.cell (p := ⟨d, 0, none⟩) hdl).trans a0
    replace a1 := (hbn.cell (p := ⟨d, 1, none⟩) hdl).trans a1
    replace a2 := (hbn.cell (p := ⟨d, 2, none⟩) hdl).trans a2
    replace a3 := (hbn.cell (p := ⟨d, 3, none⟩) hdl).trans a3
    replace a4 := (hbn.cell (p := ⟨d, 4, none⟩) hdl).trans a4
    replace a5 := (hbn.cell (p := ⟨d, 5, none⟩) hdl).trans a5
    replace a6 := (hbn.cell (p := ⟨d, 6, none⟩) hdl).trans a6
    replace a7 := (hbn.cell (p := ⟨d, 7, none⟩) hdl).trans a7
    replace a8 := (hbn.cell (p := ⟨d, 8, none⟩) hdl).trans a8
    replace a9 := (hbn.cell (p := ⟨d, 9, none⟩) hdl).trans a9
    replace a10 := (hbn.cell (p := ⟨d, 10, none⟩) hdl).trans a10
    replace hdl := Nat.lt_of_lt_of_le hdl hbn.size
    have H25 := Lib.hid (H24.out.trans (hbn.mono H24.out.size))
    clear hbn
    by_cases hmid : 400 < s.length ∧ s.length ≤ 3000
    · have h1 : (400 : Int) < (n : Int) := by have := HNS.out; omega
      have h2 : (n : Int) ≤ 3000 := by have := HNS.out; omega
      clear hmid
      go_wp2_with fail
      go_ret
      exact ⟨rfl, HB5.out⟩
    · have HCASE : Hid ((¬ (400 : Int) < (n : Int)) ∨ ((400 : Int) < (n : Int) ∧ ¬ (n : Int) ≤ 3000)) := Lib.hid (by have := HNS.out; omega)
      have HRR2 := Lib.hid (HRR.out (by omega))
      clear hmid
      go_upto_region 6 with fail
      go_cut [58] (fun v W => v = .bool false ∧ Hid (wc = W))
      case first =>
        rcases HCASE.out with h1 | ⟨h1, h2⟩
        · go_wp2_with fail
          go_meet
          exact ⟨rfl, Lib.hid rfl⟩
        · go_wp2_with fail
          go_meet
          exact ⟨rfl, Lib.hid rfl⟩
      case rest =>
        obtain ⟨rfl, HWC⟩ := hcut
        obtain rfl := HWC.out
        go_wp2_with fail
        refine Calls.mono (HRR2.out _) ?_
        intro e W6 hq
        obtain ⟨hbn, zu, zp, za, zb, zc, z0, z1, z2, z3, zd, zl, zc2, ze, zn, zm, ez, rfl, hez, hjz⟩ := hq.form
        have HB6 := Lib.hid (HB5.out.trans (hbn.mono HB5.out.size))
        have HJZ := Lib.hid hjz
        obtain rfl : ez = ec := by rw [hez, HEC.out]
        have H26 := Lib.hid (H25.out.trans (hbn.mono H25.out.size))
        replace a0 := (hbn.cell (p := ⟨d, 0, none⟩) hdl).trans a0
        replace a1 := (hbn.cell (p := ⟨d, 1, none⟩) hdl).trans a1
        replace a2 := (hbn.cell (p := ⟨d, 2, none⟩) hdl).trans a2
        replace a3 := (hbn.cell (p := ⟨d, 3, none⟩) hdl).trans a3
        replace a4 := (hbn.cell (p := ⟨d, 4, none⟩) hdl).trans a4
        replace a5 := (hbn.cell (p := ⟨d, 5, none⟩) hdl).trans a5
        replace a6 := (hbn.cell (p := ⟨d, 6, none⟩) hdl).trans a6
        replace a7 := (hbn.cell (p := ⟨d, 7, none⟩) hdl).trans a7
        replace a8 := (hbn.cell (p := ⟨d, 8, none⟩) hdl).trans a8
        replace a9 := (hbn.cell (p := ⟨d, 9, none⟩) hdl).trans a9
        replace a10 := (hbn.cell (p := ⟨d, 10, none⟩) hdl).trans a10
        replace hdl := Nat.lt_of_lt_of_le hdl hbn.size
        clear hbn hq hez hjz
        go_upto_region 9 with fail
        obtain ⟨W7, hW7⟩ : ∃ W, W = W6.alloc (.cells #[.string zu, .int .i64 zp, .int .i64 za, .int .i64 zb, .int .i64 zc, .int .i64 z0, .string z1, .string z2, .int .i64 z3, .slice zd zl zc2, .slice ze zn zm] 29) := ⟨_, rfl⟩
        obtain ⟨g, hg⟩ : ∃ d, d = W6.heap.size := ⟨_, rfl⟩
        rw [← hW7, ← hg]
        have hbn : Below W6.heap.size W6 W7 := by rw [hW7]; exact (Below.refl _ _).alloc (Nat.le_refl _) _
        have HZ7 : Hid (BoxV g [.string zu, .int .i64 zp, .int .i64 za, .int .i64 zb, .int .i64 zc, .int .i64 z0, .string z1, .string z2, .int .i64 z3, .slice zd zl zc2, .slice ze zn zm] W7) := Lib.hid (by rw [hW7]; exact BoxV.top _ hg)
        have HB7 := Lib.hid (HB6.out.trans (hbn.mono HB6.out.size))
        have H27 := Lib.hid (H26.out.trans (hbn.mono H26.out.size))
        have HSM := Lib.hid (sameJob_same (O.getD zJ) _ _ W7 (HJY.out.below H27.out) (HJZ.out.below hbn))
        replace a0 := (hbn.cell (p := ⟨d, 0, none⟩) hdl).trans a0
        replace a1 := (hbn.cell (p := ⟨d, 1, none⟩) hdl).trans a1
        replace a2 := (hbn.cell (p := ⟨d, 2, none⟩) hdl).trans a2
        replace a3 := (hbn.cell (p := ⟨d, 3, none⟩) hdl).trans a3
        replace a4 := (hbn.cell (p := ⟨d, 4, none⟩) hdl).trans a4
        replace a5 := (hbn.cell (p := ⟨d, 5, none⟩) hdl).trans a5
        replace a6 := (hbn.cell (p := ⟨d, 6, none⟩) hdl).trans a6
        replace a7 := (hbn.cell (p := ⟨d, 7, none⟩) hdl).trans a7
        replace a8 := (hbn.cell (p := ⟨d, 8, none⟩) hdl).trans a8
        replace a9 := (hbn.cell (p := ⟨d, 9, none⟩) hdl).trans a9
        replace a10 := (hbn.cell (p := ⟨d, 10, none⟩) hdl).trans a10
        replace hdl := Nat.lt_of_lt_of_le hdl hbn.size
        have e0 := HZ7.out.cell 0 _ rfl
        have e1 := HZ7.out.cell 1 _ rfl
        have e2 := HZ7.out.cell 2 _ rfl
        have e3 := HZ7.out.cell 3 _ rfl
        have e4 := HZ7.out.cell 4 _ rfl
        have e5 := HZ7.out.cell 5 _ rfl
        have e6 := HZ7.out.cell 6 _ rfl
        have e7 := HZ7.out.cell 7 _ rfl
        have e8 := HZ7.out.cell 8 _ rfl
        have e9 := HZ7.out.cell 9 _ rfl
        have e10 := HZ7.out.cell 10 _ rfl
        have hgl := HZ7.out.lt
        clear hbn hW7 hg
        go_wp2_with fail
        refine Calls.mono HSM.out ?_
        rintro e W8 ⟨rfl, hbn⟩
        have HB8 := Lib.hid (HB7.out.trans (hbn.mono HB7.out.size))
        clear hbn
        go_wp2_with fail
        go_ret
        exact ⟨rfl, HB8.out⟩
end Go.Proofs.YtkemlckmfgacdaaGreatDoor
/- Opening arguments: a struct's fields, a slice's elements, and how much room each takes. -/
namespace Go.Proofs.YtkemlckmfgacdaaGreatDoor
open Go.ChangeShapes Go.WideShapes Go.ChangeAt Go.RowKit Go.Joins Go.Deep
set_option linter.unusedVariables false
section
variable {H : Type} {enc : TypeId × Value → H} {P : Program} {w : World} {base : Nat} {spare : Nat → Bool} {held : Bool}

/-- one field of a struct: its own reading, over its own cells -/
theorem field {t : TypeId} {fs : Array Field} {fuel : Nat} {cs : List Value} {x : DataW H × List MemPlace} (ht : P.underlying t = some (.struct fs)) (h : DataW.trod enc P w base spare held fuel t cs = some x)
    (i T off k : Nat) (hT : (fs[i]?).map (fun f => (f.type, f.offset)) = some (T, off)) (hk : P.cellsOf T = k) :
    ∃ (parts : List (DataW H)) (m : Nat) (y : DataW H × List MemPlace), x.1 = .agg parts ∧ parts[i]? = some y.1 ∧ DataW.trod enc P w base spare held m T ((cs.drop off).take k) = some y := by
  obtain ⟨xs, n, _, hx, _, hl, hf⟩ := DataW.trod_struct ht h
  cases hfi : fs[i]? with
  | none => simp [hfi] at hT
  | some f =>
    simp only [hfi, Option.map_some, Option.some.injEq, Prod.mk.injEq] at hT
    have h1 := hf i f hfi
    rw [hT.1, hT.2, hk] at h1
    have hi : i < xs.length := by rw [hl]; exact (Array.getElem?_eq_some_iff.1 hfi).1
    have h2 : xs[i]? = some xs[i] := List.getElem?_eq_getElem hi
    exact ⟨xs.map (·.1), n, xs[i], by rw [hx], by simp [hi], h1.trans h2⟩

theorem cell_int {t : TypeId} {k : IntKind} {fuel : Nat} {v : Value} {x : DataW H × List MemPlace} (ht : P.underlying t = some (.int k)) (h : DataW.trod enc P w base spare held fuel t [v] = some x) : ∃ n, v = .int k n ∧ (Lit.int k n).wf = true := by
  obtain ⟨n, e, _, hw⟩ := DataW.trod_int ht h
  simp only [List.cons.injEq, and_true] at e
  exact ⟨n, e, hw⟩

/-- each string, slice and map in it takes no more than the reach -/
def Light (P : Program) (t : TypeId) (d : DataW H) : Prop := ∀ n ∈ d.weights P t, n ≤ reachBytes
theorem light_each {ts : List TypeId} {ds : List (DataW H)} (h : (DataW.weightsEach P ts ds).all (· ≤ reachBytes) = true) {j : Nat} {t : TypeId} {d : DataW H} (ht : ts[j]? = some t) (hd : ds[j]? = some d) : Light P t d := fun n hn => by
  simpa using List.all_eq_true.1 h _ (DataW.weights_mem_each ht hd n hn)
theorem weightsAll_mem {e : TypeId} : ∀ {l : List (DataW H)} {d : DataW H}, d ∈ l → ∀ n ∈ d.weights P e, n ∈ DataW.weightsAll P e l
  | d0 :: l, d, hd, n, hn => by
    simp only [DataW.weightsAll, List.mem_append]
    rcases List.mem_cons.1 hd with rfl | hd
    · exact .inl hn
    · exact .inr (weightsAll_mem hd n hn)
theorem light_slice {t e : TypeId} {elems sp : List (DataW H)} (hu : P.underlying t = some (.slice e)) (h : Light P t (.slice elems sp)) : (elems.length + sp.length) * P.bytesOf e ≤ reachBytes ∧ (∀ d ∈ elems, Light P e d) ∧ ∀ d ∈ sp, Light P e d := by
  unfold Light at h
  simp only [DataW.weights, hu] at h
  exact ⟨h _ (by simp), fun d hd n hn => h n (by simp [weightsAll_mem hd n hn]), fun d hd n hn => h n (by simp [weightsAll_mem hd n hn])⟩
theorem light_field {t : TypeId} {fs : Array Field} {parts : List (DataW H)} (hu : P.underlying t = some (.struct fs)) (h : Light P t (.agg parts)) {i T off : Nat} (hT : (fs[i]?).map (fun f => (f.type, f.offset)) = some (T, off)) {d : DataW H} (hd : parts[i]? = some d) : Light P T d := by
  unfold Light at h
  simp only [DataW.weights, hu] at h
  cases hfi : fs[i]? with
  | none => simp [hfi] at hT
  | some f =>
    simp only [hfi, Option.map_some, Option.some.injEq, Prod.mk.injEq] at hT
    refine fun n hn => h n (DataW.weights_mem_each (j := i) (t := T) ?_ hd n hn)
    simp [hfi, hT.1]
theorem light_string {t : TypeId} {bytes : List UInt8} (h : Light P t (.lit (.string bytes) : DataW H)) : bytes.length ≤ reachBytes := by
  unfold Light at h
  exact h _ (by simp [DataW.weights])
end
end Go.Proofs.YtkemlckmfgacdaaGreatDoor
/- Opening arguments: an ask, as deep as it goes. -/
namespace Go.Proofs.YtkemlckmfgacdaaGreatDoor
open Go.ChangeShapes Go.WideShapes Go.ChangeAt Go.RowKit Go.Joins Go.Deep
set_option linter.unusedVariables false
open Tp
instance : Inhabited Ask := ⟨.mk 0 [] [] 0 []⟩
section
variable {H : Type} {enc : TypeId × Value → H} {P : Program} {W : World} {base : Nat}
theorem bulk_all {l : List (DataW H)} {d : DataW H} {i : Nat} (h : l[i]? = some d) : Rows.uptoBulk d ≤ Rows.uptoBulkAll l := by
  induction l generalizing i with
  | nil => simp at h
  | cons x l ih =>
    rw [Rows.uptoBulkAll]
    cases i with
    | zero => simp at h; subst h; omega
    | succ i => have := ih (i := i) (by simpa using h); omega
theorem asksV_of : ∀ (l : List Ask) (b off : Nat), (∀ (i : Nat) (x : Ask), l[i]? = some x → ∃ v, Cells5 W b (off + i * 5) v ∧ AskV W x v) → AsksV W l b off
  | [], _, _, _ => by rw [AsksV]; trivial
  | x :: l, b, off, h => by
    rw [AsksV]
    refine ⟨by simpa using h 0 x rfl, asksV_of l b (off + 5) (fun i y hy => ?_)⟩
    have := h (i + 1) y (by simpa using hy)
    rwa [show off + (i + 1) * 5 = off + 5 + i * 5 from by omega] at this
theorem sizes_bulk {F : Nat → Ask} {D : Nat → DataW H} : ∀ l : List Nat, (∀ k, k ∈ l → (F k).size ≤ Rows.uptoBulk (D k)) → Ask.sizes (l.map F) ≤ Rows.uptoBulkAll (l.map D)
  | [], _ => by simp [Ask.sizes]
  | k :: l, h => by
    have h1 := h k (by simp)
    have h2 := sizes_bulk l (fun q hq => h q (by simp [hq]))
    simp only [List.map_cons, Ask.sizes, Rows.uptoBulkAll]
    omega
theorem open_ask {E t S K I : TypeId} {fs : Array Field} (hE : P.underlying E = some (.struct fs)) (hS : P.underlying S = some .string) (hK : P.underlying K = some (.int .i64)) (hI : P.underlying I = some (.int .i64)) (hu : P.underlying t = some (.slice E)) (hc : P.cellsOf E = 5) (hcS : P.cellsOf S = 1) (hcK : P.cellsOf K = 1) (hcI : P.cellsOf I = 1) (hct : P.cellsOf t = 1)
    (f0 : (fs[0]?).map (fun f => (f.type, f.offset)) = some (K, 0)) (f1 : (fs[1]?).map (fun f => (f.type, f.offset)) = some (S, 1)) (f2 : (fs[2]?).map (fun f => (f.type, f.offset)) = some (S, 2)) (f3 : (fs[3]?).map (fun f => (f.type, f.offset)) = some (I, 3)) (f4 : (fs[4]?).map (fun f => (f.type, f.offset)) = some (t, 4)) :
    ∀ (N fuel : Nat) (c0 c1 c2 c3 c4 : Value) (x : DataW H × List MemPlace), Rows.uptoBulk x.1 ≤ N → DataW.trod enc P W 0 (fun _ => true) true fuel E [c0, c1, c2, c3, c4] = some x → ∃ a : Ask, AskV W a (.agg #[c0, c1, c2, c3, c4]) ∧ a.size ≤ Rows.uptoBulk x.1 := by
  intro N
  induction N with
  | zero =>
    intro fuel c0 c1 c2 c3 c4 x hb h
    obtain ⟨ps0, _, y0, e0, k0, g0⟩ := field hE h 0 K 0 1 f0 hcK
    rw [e0, Rows.uptoBulk] at hb
    omega
  | succ N ih =>
    intro fuel c0 c1 c2 c3 c4 x hb h
    obtain ⟨ps0, _, y0, e0, k0, g0⟩ := field hE h 0 K 0 1 f0 hcK
    obtain ⟨ps1, _, y1, e1, k1, g1⟩ := field hE h 1 S 1 1 f1 hcS
    obtain ⟨ps2, _, y2, e2, k2, g2⟩ := field hE h 2 S 2 1 f2 hcS
    obtain ⟨ps3, _, y3, e3, k3, g3⟩ := field hE h 3 I 3 1 f3 hcI
    obtain ⟨ps4, _, y4, e4, k4, g4⟩ := field hE h 4 t 4 1 f4 hct
    obtain ⟨n0, hn0, _, _⟩ := DataW.trod_int hK g0
    obtain ⟨s1, hs1, _, hz1⟩ := DataW.trod_string hS g1
    obtain ⟨s2, hs2, _, hz2⟩ := DataW.trod_string hS g2
    obtain ⟨n3, hn3, _, _⟩ := DataW.trod_int hI g3
    have z0 : c0 = .int .i64 n0 := by simpa using hn0
    have z1 : c1 = .string s1 := by simpa using hs1
    have z2 : c2 = .string s2 := by simpa using hs2
    have z3 : c3 = .int .i64 n3 := by simpa using hn3
    subst z0 z1 z2 z3
    have hmx : maxLen = 9223372036854775807 := rfl
    have hb4 := bulk_all k4
    rw [e4, Rows.uptoBulk] at hb ⊢
    have hl1 : (lst s1).length ≤ 9223372036854775807 := by rw [lst_len]; omega
    have hl2 : (lst s2).length ≤ 9223372036854775807 := by rw [lst_len]; omega
    rcases open_slice hu g4 with ⟨e, _⟩ | ⟨ad', len, cap, m, n, D, Pl, e, _, hlc, hm, hmm, hx, hi⟩
    · have z4 : c4 = .slice none 0 0 := by simpa using e
      subst z4
      refine ⟨.mk n0 (lst s1) (lst s2) n3 [], ?_, by simp only [Ask.size, Ask.sizes]; omega⟩
      rw [AskV]
      exact ⟨none, 0, 0, by rw [bts_lst, bts_lst], rfl, Nat.le_refl _, by omega, hl1, hl2, fun h => absurd h (by omega)⟩
    · have z4 : c4 = .slice (some ad') len cap := by simpa using e
      subst z4
      simp only [if_true] at hmm
      subst hmm
      have hy4 : y4.1 = _ := congrArg Prod.fst hx
      simp only at hy4
      rw [hy4, Rows.uptoBulk] at hb4
      have hDk : ∀ k, k < len → Rows.uptoBulk (D k) ≤ N := fun k hk => by
        have := bulk_all (l := (List.range len).map D) (i := k) (d := D k) (by rw [List.getElem?_map, List.getElem?_range hk]; rfl)
        omega
      have hch : ∀ k, k < len → ∃ q : Ask, (∃ v : Value, (∃ b0 b1 b2 b3 b4, v = .agg #[b0, b1, b2, b3, b4] ∧ ∀ j u, [b0, b1, b2, b3, b4][j]? = some u → W.cell? ((ad'.add (k * 5)).add j) = some u) ∧ AskV W q v) ∧ q.size ≤ Rows.uptoBulk (D k) := by
        intro k hk
        obtain ⟨cs', hc', ht⟩ := hi k (by omega)
        obtain ⟨_, hl, hat⟩ := World.cells?_some hc'
        rw [hc] at hl hat
        match cs', hl with
        | [b0, b1, b2, b3, b4], _ =>
          obtain ⟨q, hq1, hq2⟩ := ih _ b0 b1 b2 b3 b4 (D k, Pl k) (hDk k hk) ht
          refine ⟨q, ⟨_, ⟨b0, b1, b2, b3, b4, rfl, fun j u hv => ?_⟩, hq1⟩, hq2⟩
          have hj : j < 5 := (List.getElem?_eq_some_iff.1 hv).1
          have := hat j hj
          rw [hv] at this
          exact this
      obtain ⟨F, hF⟩ := choose_lt hch
      refine ⟨.mk n0 (lst s1) (lst s2) n3 ((List.range len).map F), ?_, ?_⟩
      · rw [AskV]
        refine ⟨some ad', len, m, by rw [bts_lst, bts_lst], by simp, hlc, by omega, hl1, hl2, fun hpos => ?_⟩
        have hspot : ad'.spot = none := by
          obtain ⟨⟨v, ⟨b0, b1, b2, b3, b4, _, hcell⟩, _⟩, _⟩ := hF 0 hpos
          have := World.cell?_spot (hcell 0 _ rfl)
          simpa [Addr.add] using this
        obtain ⟨bl, off, spot⟩ := ad'
        simp only at hspot
        subst hspot
        refine ⟨bl, off, rfl, ?_, asksV_of _ _ _ (fun i a hg => ?_)⟩
        · obtain ⟨⟨v, ⟨b0, b1, b2, b3, b4, _, hcell⟩, _⟩, _⟩ := hF 0 hpos
          have := hcell 0 _ rfl
          rw [Addr.add_mid, Addr.add_mid] at this
          exact block_lt_of_cell this
        · have hil : i < len := by
            have := (List.getElem?_eq_some_iff.1 hg).1
            simpa using this
          have e : F i = a := by
            rw [List.getElem?_map, List.getElem?_range hil] at hg
            simpa using hg
          obtain ⟨⟨v, ⟨b0, b1, b2, b3, b4, hv, hcell⟩, hav⟩, _⟩ := hF i hil
          have h0 := hcell 0 _ rfl
          have h1 := hcell 1 _ rfl
          have h2 := hcell 2 _ rfl
          have h3 := hcell 3 _ rfl
          have h4 := hcell 4 _ rfl
          rw [Addr.add_mid, Addr.add_mid] at h0 h1 h2 h3 h4
          exact ⟨v, ⟨b0, b1, b2, b3, b4, hv, h0, h1, h2, h3, h4⟩, e ▸ hav⟩
      · have := sizes_bulk (List.range len) (F := F) (D := D) (fun k hk => (hF k (List.mem_range.1 hk)).2)
        rw [Ask.size]
        omega
end
end Go.Proofs.YtkemlckmfgacdaaGreatDoor
/- What the row's list gives: the world that the library's functions of texts want. -/
namespace Go.Proofs.YtkemlckmfgacdaaGreatDoor
open Go.ChangeShapes Go.WideShapes Go.ChangeAt Go.RowKit
set_option linter.unusedVariables false
theorem starErr : ("*errors.errorString" : String) = "*" ++ "errors.errorString" := by decide
theorem rowErr (u : TypeId) (h : Tryz.prog.typeName? 3 u = some "*errors.errorString") : u = 156 :=
  typeName_ptr_named (nm := "errors.errorString") (by rw [← starErr]; kernel_rfl) (by kernel_rfl) (by decide) u (by rw [← starErr]; exact h)
theorem env_of {L1 L2 L3 : String × DataW Unit} {R : List (String × DataW Unit)} {W : World} (hSh : W.ShapedOpen Tryz.prog)
    (h : laidMet Tryz.prog (L1 :: L2 :: ("internal/strconv.uint64pow10", Rows.laid_internal_strconv_uint64pow10) :: L3 :: ("strconv.ErrRange", Rows.laid_strconv_ErrRange) :: ("strconv.ErrSyntax", Rows.laid_strconv_ErrSyntax) :: R) W) : Env W := by
  have h1 := h.tail.tail
  have h2 := h1.tail.tail
  have h3 := h2.tail
  obtain ⟨a1, s1, hv1, _, _, _⟩ := laid_sentinel (g := 0) (ti := 63) (tp := 156) (te := 158) (ts := 9) h3 (by kernel_rfl) (by kernel_rfl) Tryz.underlying63 rowErr Tryz.underlying156 Tryz.underlying158 rfl rfl Tryz.underlying9 (by kernel_rfl) (by kernel_rfl)
  obtain ⟨a2, s2, hv2, _, _, _⟩ := laid_sentinel (g := 1) (ti := 63) (tp := 156) (te := 158) (ts := 9) h2 (by kernel_rfl) (by kernel_rfl) Tryz.underlying63 rowErr Tryz.underlying156 Tryz.underlying158 rfl rfl Tryz.underlying9 (by kernel_rfl) (by kernel_rfl)
  obtain ⟨m, hm⟩ := Go.Proofs.cell_of_shapedOpen_int (g := 2) (zero := #[.int .i64 0]) (t := 3) hSh (of_decide_eq_true (by kernel_rfl)) (by kernel_rfl) rfl (by kernel_rfl) (by kernel_rfl) Tryz.underlying3
  refine ⟨⟨m, hm⟩, ⟨_, _, by simpa using World.var?_cell (by kernel_rfl) hv1 0⟩, ⟨_, _, by simpa using World.var?_cell (by kernel_rfl) hv2 0⟩, ?_⟩
  exact Lib.tabIs_of_head (rest := L3 :: ("strconv.ErrRange", Rows.laid_strconv_ErrRange) :: ("strconv.ErrSyntax", Rows.laid_strconv_ErrSyntax) :: R) gPowT (t := 150) (e := 87) (by kernel_rfl) Tryz.underlying150 Tryz.underlying87 (by kernel_rfl) (by kernel_rfl) h1
section
open Go.Joins Go.Deep
variable {H : Type} {enc : TypeId × Value → H} {P : Program} {W : World} {base : Nat}
theorem rowsIntJ {t I : TypeId} {v : Value} (hu : P.underlying t = some (.slice I)) (hI : P.underlying I = some (.int .i64)) (hcI : P.cellsOf I = 1)
    {fuel : Nat} {x : DataW H × List MemPlace} (o : ∃ ad len cap, v = .slice ad len cap) (hf : DataW.trod enc P W 0 (fun _ => true) true fuel t [v] = some x) :
    ∃ (a : Option Addr) (n cap : Nat) (R : List Int), v = .slice a n cap ∧ n = R.length ∧ n ≤ 9223372036854775807 ∧ n ≤ cap ∧ cap ≤ 9223372036854775807 ∧ Vals W a (ints R) := by
  obtain ⟨ad, len, cap, rfl⟩ := o
  rcases open_ints hu hI hcI hf with ⟨e, _⟩ | ⟨ad', len', cap', zs, e, _, hlc, hm, hzl, hx, hat, _⟩
  · simp [Value.cells] at e
    obtain ⟨rfl, rfl, rfl⟩ := e
    exact ⟨none, 0, 0, [], rfl, rfl, by omega, by omega, by omega, fun h => absurd h (by simp [ints])⟩
  · simp [Value.cells] at e
    obtain ⟨rfl, rfl, rfl⟩ := e
    simp only [if_true] at hzl
    refine ⟨some ad', len, _, zs.take len, rfl, by simp; omega, by unfold maxLen at hm; omega, hlc, by unfold maxLen at hm; omega, fun hL => ?_⟩
    have hpos : 0 < len := by simp [ints] at hL; omega
    have hspot : ad'.spot = none := by
      have := World.cell?_spot (hat 0 (by omega))
      simpa [Addr.add] using this
    obtain ⟨b0, off, spot⟩ := ad'
    simp only at hspot
    subst hspot
    refine ⟨b0, off, rfl, ?_, fun i v hg => ?_⟩
    · have := hat 0 (by omega)
      rw [Addr.add_mid] at this
      exact block_lt_of_cell this
    · have hil : i < len := by
        have := (List.getElem?_eq_some_iff.1 hg).1
        simp [ints] at this; omega
      have h0 := hat i (by omega)
      rw [Addr.add_mid] at h0
      rw [ints, List.getElem?_map, List.getElem?_take, if_pos hil] at hg
      rw [h0]
      cases hz : zs[i]? with
      | none => rw [hz] at hg; simp at hg
      | some z =>
        rw [hz] at hg
        simp at hg
        simp [List.getD, hz, hg]
end
end Go.Proofs.YtkemlckmfgacdaaGreatDoor
