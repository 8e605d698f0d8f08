/- The law AskTells: walked. -/
import Derived.Test.YtddcaabhbbdbpaaDoorAskRR
import Derived.Test.YtddcaabhbbdbpaaDoorAskReadQ
import Derived.Test.YtddcaabhbbdbpaaDoorAskSame
import Derived.Deep.CutBlock
import Derived.Deep.DeepCutAuto
namespace Go.Proofs.YtddcaabhbbdbpaaDoor
open Go.ChangeShapes Go.WideShapes Go.ChangeAt Go.RowKit
set_option linter.unusedVariables false
set_option linter.unusedSimpArgs false
open Tp
/-- an ask that is nothing -/
def zA : Ask := .mk 0 [] [] 0 []
theorem zA_v (w : World) : AskV w zA zero5 := AskVP.toV (p := fun _ => True) _ _ (leaf_vp 0 [] [] 0 (by simp) (by simp))
theorem AskRdQ.form {w w' : World} {O : Option Ask} {e : Ending} (h : AskRdQ w O e w') : Below w.heap.size w w' ∧ ∃ (y0 : Int) (y1 y2 : ByteArray) (y3 : Int) (yd : Option Addr) (yl yc : Nat) (ec : Int), e = .returned (.tuple #[.agg #[.int .i64 y0, .string y1, .string y2, .int .i64 y3, .slice yd yl yc], .int .i64 ec]) ∧ (ec = if O.isSome then 0 else 3) ∧ AskV w' (O.getD zA) (.agg #[.int .i64 y0, .string y1, .string y2, .int .i64 y3, .slice yd yl yc]) := by
  obtain ⟨hb, h⟩ := h
  cases O with
  | none => exact ⟨hb, _, _, _, _, _, _, _, 3, h, rfl, zA_v w'⟩
  | some x =>
    obtain ⟨x0, x1, x2, x3, xd, xl, xc, h1, h2⟩ := h
    exact ⟨hb, _, _, _, _, _, _, _, 0, h1, rfl, h2⟩
theorem AskRrQ.form {w w' : World} {O : Option Ask} {e : Ending} (h : AskRrQ w O e w') : Below w.heap.size w w' ∧ ∃ (z0 : Int) (z1 z2 : ByteArray) (z3 : Int) (zd : Option Addr) (zl zc : Nat), e = .returned (.tuple #[.agg #[.int .i64 z0, .string z1, .string z2, .int .i64 z3, .slice zd zl zc], .bool O.isSome]) ∧ AskV w' (O.getD zA) (.agg #[.int .i64 z0, .string z1, .string z2, .int .i64 z3, .slice zd zl zc]) := by
  obtain ⟨hb, h⟩ := h
  cases O with
  | none => exact ⟨hb, _, _, _, _, _, _, _, h, zA_v w'⟩
  | some x =>
    obtain ⟨x0, x1, x2, x3, xd, xl, xc, h1, h2⟩ := h
    exact ⟨hb, _, _, _, _, _, _, _, h1, h2⟩
/-- what the law's reading tells, long texts too -/
theorem read_law (s : Bs) (w : World) (he : Env w) : Calls Tryd.prog 5 #[.string (bts s)] w fun e w' => Below w.heap.size w w' ∧ ∃ (y0 : Int) (y1 y2 : ByteArray) (y3 : Int) (yd : Option Addr) (yl yc : Nat) (ec : Int), e = .returned (.tuple #[.agg #[.int .i64 y0, .string y1, .string y2, .int .i64 y3, .slice yd yl yc], .int .i64 ec]) ∧ ((2000 < s.length ∧ ec = 2 ∧ AskV w' zA (.agg #[.int .i64 y0, .string y1, .string y2, .int .i64 y3, .slice yd yl yc])) ∨ (s.length ≤ 2000 ∧ (ec = if (Ar.own (Ar.readR s) s).isSome then 0 else 3) ∧ AskV w' ((Ar.own (Ar.readR s) s).getD zA) (.agg #[.int .i64 y0, .string y1, .string y2, .int .i64 y3, .slice yd yl yc]))) := by
  by_cases h : 2000 < s.length
  · refine Calls.mono (askRead_long (bts s) w (by rw [bts_size]; exact h)) ?_
    rintro e w' ⟨he, hb⟩
    exact ⟨hb, _, _, _, _, _, _, _, 2, he, .inl ⟨h, rfl, zA_v w'⟩⟩
  · refine Calls.mono (askRead_any s w (by omega) he) ?_
    intro e w' hq
    rw [Ar.own_same s] at hq
    obtain ⟨hb, y0, y1, y2, y3, yd, yl, yc, ec, h1, h2, h3⟩ := hq.form
    exact ⟨hb, y0, y1, y2, y3, yd, yl, yc, ec, h1, .inr ⟨by omega, h2, h3⟩⟩
set_option maxRecDepth 20000 in
set_option maxHeartbeats 16000000 in
theorem tellsLaw_any (x : Ask) (v : Value) (s : Bs) (w : World) (hs : x.size ≤ 1000000000) (hsl : s.length ≤ 1099511627776) (he : Env w) (hx : AskV w x v) : Calls Tryd.prog 3 #[v, .string (bts s)] w fun e w' => e = .returned (.bool true) ∧ Below w.heap.size w w' := by
  obtain ⟨x0, x1, x2, x3, xd, xl, xc, rfl⟩ := hx.form
  obtain ⟨B, hB⟩ : ∃ B, B = w.heap.size := ⟨_, rfl⟩
  obtain ⟨W0, hW0⟩ : ∃ W, W = w.alloc (.cells #[.int .i64 x0, .string x1, .string x2, .int .i64 x3, .slice xd xl xc] 24) := ⟨_, rfl⟩
  have hb0 : Below w.heap.size w W0 := by rw [hW0]; exact (Below.refl _ _).alloc (Nat.le_refl _) _
  have b0 : W0.cell? ⟨B, 0, none⟩ = some (.int .i64 x0) := by rw [hW0]; exact (cell_top _ _ _ _ _ hB).trans rfl
  have b1 : W0.cell? ⟨B, 1, none⟩ = some (.string x1) := by rw [hW0]; exact (cell_top _ _ _ _ _ hB).trans rfl
  have b2 : W0.cell? ⟨B, 2, none⟩ = some (.string x2) := by rw [hW0]; exact (cell_top _ _ _ _ _ hB).trans rfl
  have b3 : W0.cell? ⟨B, 3, none⟩ = some (.int .i64 x3) := by rw [hW0]; exact (cell_top _ _ _ _ _ hB).trans rfl
  have b4 : W0.cell? ⟨B, 4, none⟩ = some (.slice xd xl xc) := by rw [hW0]; exact (cell_top _ _ _ _ _ hB).trans rfl
  have hBl : B < W0.heap.size := by rw [hW0, hB]; simp
  have HB0 := Lib.hid hb0
  have HEV : Hid (∀ W, Below w.heap.size w W → Env W) := Lib.hid (fun W h => he.below h (Nat.le_refl _))
  have HXV : Hid (∀ W, Below w.heap.size w W → AskV W x (.agg #[.int .i64 x0, .string x1, .string x2, .int .i64 x3, .slice xd xl xc])) := Lib.hid (fun W h => AskV.below h _ _ hx)
  obtain ⟨f, hf⟩ : ∃ f, x.fault = f := ⟨_, rfl⟩
  obtain ⟨T, hT⟩ : ∃ T, askTxtOf x = T := ⟨_, rfl⟩
  have HF := Lib.hid hf
  have HT := Lib.hid hT
  have HTX := Lib.hid (fun W (h : Below w.heap.size w W) => askText_any x _ W hs (HEV.out W h) (HXV.out W h))
  have HRF := Lib.hid (fun W (h : Below w.heap.size w W) => AskFault_any x _ W hs (HXV.out W h))
  have HCK := Lib.hid (fun W (h : Below w.heap.size w W) => askCheck_any x _ W hs (HXV.out W h))
  have HRD := Lib.hid (fun W (h : Below w.heap.size w W) => read_law s W (HEV.out W h))
  have HRR : Hid (s.length ≤ 2000 → ∀ W, Calls Tryd.prog 10 #[.string (bts s)] W (AskRrQ W (Ar.own (Ar.readR s) s))) := Lib.hid (fun h W => refRead_any s W h)
  have HRX : Hid (f = 0 → ∀ W, Below w.heap.size w W → Calls Tryd.prog 8 #[.agg #[.int .i64 x0, .string x1, .string x2, .int .i64 x3, .slice xd xl xc]] W fun e w' => e = .returned (.string T) ∧ Below W.heap.size W w') := Lib.hid (fun h0 W h => by
    have hf0 : x.fault = 0 := HF.out.trans h0
    have hg := Ar.fault_good hf0
    have := refText_all x.size x _ W (Nat.le_refl _) hg.2 (by have h := hf0; unfold Ask.fault at h; rw [if_neg (by have := hg.2; omega)] at h; exact h) (HXV.out W h)
    rw [show bts (Ar.txt x) = T by rw [← HT.out]; unfold askTxtOf; rw [if_pos hf0]] at this
    exact this)
  have HTE : Hid (f ≠ 0 → T = ⟨#[]⟩) := Lib.hid (fun h => by rw [← HT.out]; unfold askTxtOf; rw [if_neg (by rw [HF.out]; exact h)])
  obtain ⟨O, hO⟩ : ∃ O, Ar.own (Ar.readR s) s = O := ⟨_, rfl⟩
  rw [hO] at HRD HRR
  obtain ⟨S, hS⟩ : ∃ S, bts s = S := ⟨_, rfl⟩
  rw [hS] at HRD HRR
  rw [hf, hT] at HTX
  rw [hf] at HRF HCK
  rw [hS]
  obtain ⟨n, hn⟩ : ∃ n, S.size = n := ⟨_, rfl⟩
  have HNS : Hid (s.length = n) := Lib.hid (by rw [← hn, ← hS, bts_size])
  clear hb0 hf hT hO hS he hx hs hsl
  go_enter Tryd.func3, Tryd.ntmps3
  go_upto_region 1 with fail
  rw [← hW0, ← hB]
  clear hW0 hB
  go_wp2_with fail
  refine Calls.mono (HTX.out W0 HB0.out) ?_
  rintro e W1 ⟨rfl, hbn⟩
  have HB1 : Hid (Below w.heap.size w W1) := Lib.hid (HB0.out.trans (hbn.mono HB0.out.size))
  replace b0 := (hbn.cell (p := ⟨B, 0, none⟩) hBl).trans b0
  replace b1 := (hbn.cell (p := ⟨B, 1, none⟩) hBl).trans b1
  replace b2 := (hbn.cell (p := ⟨B, 2, none⟩) hBl).trans b2
  replace b3 := (hbn.cell (p := ⟨B, 3, none⟩) hBl).trans b3
  replace b4 := (hbn.cell (p := ⟨B, 4, none⟩) hBl).trans b4
  replace hBl := Nat.lt_of_lt_of_le hBl hbn.size
  clear hbn
  go_wp2_with fail
  refine Calls.mono (HRD.out W1 HB1.out) ?_
  rintro e W2 ⟨hbn, y0, y1, y2, y3, yd, yl, yc, ec, rfl, hrd⟩
  have HB2 : Hid (Below w.heap.size w W2) := Lib.hid (HB1.out.trans (hbn.mono HB1.out.size))
  replace b0 := (hbn.cell (p := ⟨B, 0, none⟩) hBl).trans b0
  replace b1 := (hbn.cell (p := ⟨B, 1, none⟩) hBl).trans b1
  replace b2 := (hbn.cell (p := ⟨B, 2, none⟩) hBl).trans b2
  replace b3 := (hbn.cell (p := ⟨B, 3, none⟩) hBl).trans b3
  replace b4 := (hbn.cell (p := ⟨B, 4, none⟩) hBl).trans b4
  replace hBl := Nat.lt_of_lt_of_le hBl hbn.size
  have HRV := Lib.hid hrd
  clear hbn hrd
  go_upto_region 3 with fail
  obtain ⟨W3, hW3⟩ : ∃ W, W = W2.alloc (.cells #[.int .i64 y0, .string y1, .string y2, .int .i64 y3, .slice yd yl yc] 24) := ⟨_, rfl⟩
  obtain ⟨d, hd⟩ : ∃ d, d = W2.heap.size := ⟨_, rfl⟩
  rw [← hW3, ← hd]
  have hbn : Below W2.heap.size W2 W3 := by rw [hW3]; exact (Below.refl _ _).alloc (Nat.le_refl _) _
  have HB3 : Hid (Below w.heap.size w W3) := Lib.hid (HB2.out.trans (hbn.mono HB2.out.size))
  replace b0 := (hbn.cell (p := ⟨B, 0, none⟩) hBl).trans b0
  replace b1 := (hbn.cell (p := ⟨B, 1, none⟩) hBl).trans b1
  replace b2 := (hbn.cell (p := ⟨B, 2, none⟩) hBl).trans b2
  replace b3 := (hbn.cell (p := ⟨B, 3, none⟩) hBl).trans b3
  replace b4 := (hbn.cell (p := ⟨B, 4, none⟩) hBl).trans b4
  replace hBl := Nat.lt_of_lt_of_le hBl hbn.size
  have a0 : W3.cell? ⟨d, 0, none⟩ = some (.int .i64 y0) := by rw [hW3]; exact (cell_top _ _ _ _ _ hd).trans rfl
  have a1 : W3.cell? ⟨d, 1, none⟩ = some (.string y1) := by rw [hW3]; exact (cell_top _ _ _ _ _ hd).trans rfl
  have a2 : W3.cell? ⟨d, 2, none⟩ = some (.string y2) := by rw [hW3]; exact (cell_top _ _ _ _ _ hd).trans rfl
  have a3 : W3.cell? ⟨d, 3, none⟩ = some (.int .i64 y3) := by rw [hW3]; exact (cell_top _ _ _ _ _ hd).trans rfl
  have a4 : W3.cell? ⟨d, 4, none⟩ = some (.slice yd yl yc) := by rw [hW3]; exact (cell_top _ _ _ _ _ hd).trans rfl
  have hdl : d < W3.heap.size := by rw [hW3, hd]; simp
  have H23 := Lib.hid hbn
  clear hbn hW3 hd
  go_wp2_with fail
  refine Calls.mono (HRF.out W3 HB3.out) ?_
  rintro e W4 ⟨rfl, hbn⟩
  have HB4 : Hid (Below w.heap.size w W4) := Lib.hid (HB3.out.trans (hbn.mono HB3.out.size))
  replace b0 := (hbn.cell (p := ⟨B, 0, none⟩) hBl).trans b0
  replace b1 := (hbn.cell (p := ⟨B, 1, none⟩) hBl).trans b1
  replace b2 := (hbn.cell (p := ⟨B, 2, none⟩) hBl).trans b2
  replace b3 := (hbn.cell (p := ⟨B, 3, none⟩) hBl).trans b3
  replace b4 := (hbn.cell (p := ⟨B, 4, none⟩) hBl).trans b4
  replace hBl := Nat.lt_of_lt_of_le hBl hbn.size
  replace a0 := (hbn.cell (p := ⟨d, 0, none⟩) hdl).trans a0
  replace a1 := (hbn.cell (p := ⟨d, 1, none⟩) hdl).trans a1
  replace a2 := (hbn.cell (p := ⟨d, 2, none⟩) hdl).trans a2
  replace a3 := (hbn.cell (p := ⟨d, 3, none⟩) hdl).trans a3
  replace a4 := (hbn.cell (p := ⟨d, 4, none⟩) hdl).trans a4
  replace hdl := Nat.lt_of_lt_of_le hdl hbn.size
  have H24 := Lib.hid (H23.out.trans (hbn.mono H23.out.size))
  clear hbn
  go_upto_region 4 with fail
  go_cut [50] (fun v W => v = .bool false ∧ Hid (Below W4.heap.size W4 W))
  case first =>
    by_cases h0 : f = 0
    · subst h0
      have HRX2 := Lib.hid (HRX.out rfl)
      go_wp2_with fail
      refine Calls.mono (HCK.out W4 HB4.out) ?_
      rintro e W5 ⟨rfl, hbn⟩
      have HB5 : Hid (Below w.heap.size w W5) := Lib.hid (HB4.out.trans (hbn.mono HB4.out.size))
      replace b0 := (hbn.cell (p := ⟨B, 0, none⟩) hBl).trans b0
      replace b1 := (hbn.cell (p := ⟨B, 1, none⟩) hBl).trans b1
      replace b2 := (hbn.cell (p := ⟨B, 2, none⟩) hBl).trans b2
      replace b3 := (hbn.cell (p := ⟨B, 3, none⟩) hBl).trans b3
      replace b4 := (hbn.cell (p := ⟨B, 4, none⟩) hBl).trans b4
      replace hBl := Nat.lt_of_lt_of_le hBl hbn.size
      have H45 := Lib.hid hbn
      clear hbn
      go_wp2_with fail
      refine Calls.mono (HRX2.out W5 HB5.out) ?_
      rintro e W6 ⟨rfl, hbn⟩
      have HB6 : Hid (Below w.heap.size w W6) := Lib.hid (HB5.out.trans (hbn.mono HB5.out.size))
      replace b0 := (hbn.cell (p := ⟨B, 0, none⟩) hBl).trans b0
      replace b1 := (hbn.cell (p := ⟨B, 1, none⟩) hBl).trans b1
      replace b2 := (hbn.cell (p := ⟨B, 2, none⟩) hBl).trans b2
      replace b3 := (hbn.cell (p := ⟨B, 3, none⟩) hBl).trans b3
      replace b4 := (hbn.cell (p := ⟨B, 4, none⟩) hBl).trans b4
      replace hBl := Nat.lt_of_lt_of_le hBl hbn.size
      have H46 := Lib.hid (H45.out.trans (hbn.mono H45.out.size))
      clear hbn
      go_wp2_with fail
      go_meet
      exact ⟨rfl, H46⟩
    · have hz : (f == 0) = false := by simpa using h0
      have hz2 : (f != 0) = true := by simpa using h0
      obtain rfl : T = ⟨#[]⟩ := HTE.out h0
      have H0 := Lib.hid h0
      clear h0
      go_wp2_with fail
      refine Calls.mono (HCK.out W4 HB4.out) ?_
      rintro e W5 ⟨rfl, hbn⟩
      have HB5 : Hid (Below w.heap.size w W5) := Lib.hid (HB4.out.trans (hbn.mono HB4.out.size))
      replace b0 := (hbn.cell (p := ⟨B, 0, none⟩) hBl).trans b0
      replace b1 := (hbn.cell (p := ⟨B, 1, none⟩) hBl).trans b1
      replace b2 := (hbn.cell (p := ⟨B, 2, none⟩) hBl).trans b2
      replace b3 := (hbn.cell (p := ⟨B, 3, none⟩) hBl).trans b3
      replace b4 := (hbn.cell (p := ⟨B, 4, none⟩) hBl).trans b4
      replace hBl := Nat.lt_of_lt_of_le hBl hbn.size
      have H45 := Lib.hid hbn
      clear hbn
      go_wp2_with fail
      go_meet
      exact ⟨rfl, H45⟩
  case rest =>
    obtain ⟨rfl, HBc⟩ := hcut
    have hbn := HBc.out
    have HB5 : Hid (Below w.heap.size w wc) := Lib.hid (HB4.out.trans (hbn.mono HB4.out.size))
    replace b0 := (hbn.cell (p := ⟨B, 0, none⟩) hBl).trans b0
    replace b1 := (hbn.cell (p := ⟨B, 1, none⟩) hBl).trans b1
    replace b2 := (hbn.cell (p := ⟨B, 2, none⟩) hBl).trans b2
    replace b3 := (hbn.cell (p := ⟨B, 3, none⟩) hBl).trans b3
    replace b4 := (hbn.cell (p := ⟨B, 4, none⟩) hBl).trans b4
    replace hBl := Nat.lt_of_lt_of_le hBl hbn.size
    replace a0 := (hbn.cell (p := ⟨d, 0, none⟩) hdl).trans a0
    replace a1 := (hbn.cell (p := ⟨d, 1, none⟩) hdl).trans a1
    replace a2 := (hbn.cell (p := ⟨d, 2, none⟩) hdl).trans a2
    replace a3 := (hbn.cell (p := ⟨d, 3, none⟩) hdl).trans a3
    replace a4 := (hbn.cell (p := ⟨d, 4, none⟩) hdl).trans a4
    replace hdl := Nat.lt_of_lt_of_le hdl hbn.size
    have H25 := Lib.hid (H24.out.trans (hbn.mono H24.out.size))
    clear hbn
    rcases HRV.out with ⟨hl, rfl, hy⟩ | ⟨hl, hec, hy⟩
    · have hn2 : (2000 : Int) < (n : Int) := by have := HNS.out; omega
      have HSM := Lib.hid (same_any zA _ _ wc (AskV.below H25.out _ _ hy) (zA_v wc))
      clear hl hy
      go_wp2_with fail
      refine Calls.mono HSM.out ?_
      rintro e W6 ⟨rfl, hbn⟩
      have HB6 := Lib.hid (HB5.out.trans (hbn.mono HB5.out.size))
      clear hbn
      go_wp2_with fail
      go_ret
      exact ⟨rfl, HB6.out⟩
    · have HY := Lib.hid hy
      have HEC := Lib.hid hec
      clear hec
      have hn2 : ¬ (2000 : Int) < (n : Int) := by have := HNS.out; omega
      by_cases hl4 : 400 < s.length
      · have hn4 : (400 : Int) < (n : Int) := by have := HNS.out; omega
        clear hl hy hl4
        go_wp2_with fail
        go_ret
        exact ⟨rfl, HB5.out⟩
      · have hn4 : ¬ (400 : Int) < (n : Int) := by have := HNS.out; omega
        have HRR2 := Lib.hid (HRR.out hl)
        clear hl hy hl4
        go_wp2_with fail
        refine Calls.mono (HRR2.out _) ?_
        rintro e W6 hq
        obtain ⟨hbn, z0, z1, z2, z3, zd, zl, zc, rfl, hzv⟩ := hq.form
        have HB6 := Lib.hid (HB5.out.trans (hbn.mono HB5.out.size))
        have HZ := Lib.hid hzv
        have H26 := Lib.hid (H25.out.trans (hbn.mono H25.out.size))
        replace a0 := (hbn.cell (p := ⟨d, 0, none⟩) hdl).trans a0
        replace a1 := (hbn.cell (p := ⟨d, 1, none⟩) hdl).trans a1
        replace a2 := (hbn.cell (p := ⟨d, 2, none⟩) hdl).trans a2
        replace a3 := (hbn.cell (p := ⟨d, 3, none⟩) hdl).trans a3
        replace a4 := (hbn.cell (p := ⟨d, 4, none⟩) hdl).trans a4
        replace hdl := Nat.lt_of_lt_of_le hdl hbn.size
        obtain ⟨ob, hob⟩ : ∃ b, O.isSome = b := ⟨_, rfl⟩
        have HOB := Lib.hid hob
        rw [hob]
        clear hbn hq hzv hob
        go_upto_region 11 with fail
        obtain ⟨W7, hW7⟩ : ∃ W, W = W6.alloc (.cells #[.int .i64 z0, .string z1, .string z2, .int .i64 z3, .slice zd zl zc] 24) := ⟨_, rfl⟩
        obtain ⟨g, hg⟩ : ∃ d, d = W6.heap.size := ⟨_, rfl⟩
        rw [← hW7, ← hg]
        have hbn : Below W6.heap.size W6 W7 := by rw [hW7]; exact (Below.refl _ _).alloc (Nat.le_refl _) _
        have HB7 := Lib.hid (HB6.out.trans (hbn.mono HB6.out.size))
        have H27 := Lib.hid (H26.out.trans (hbn.mono H26.out.size))
        replace a0 := (hbn.cell (p := ⟨d, 0, none⟩) hdl).trans a0
        replace a1 := (hbn.cell (p := ⟨d, 1, none⟩) hdl).trans a1
        replace a2 := (hbn.cell (p := ⟨d, 2, none⟩) hdl).trans a2
        replace a3 := (hbn.cell (p := ⟨d, 3, none⟩) hdl).trans a3
        replace a4 := (hbn.cell (p := ⟨d, 4, none⟩) hdl).trans a4
        replace hdl := Nat.lt_of_lt_of_le hdl hbn.size
        have e0 : W7.cell? ⟨g, 0, none⟩ = some (.int .i64 z0) := by rw [hW7]; exact (cell_top _ _ _ _ _ hg).trans rfl
        have e1 : W7.cell? ⟨g, 1, none⟩ = some (.string z1) := by rw [hW7]; exact (cell_top _ _ _ _ _ hg).trans rfl
        have e2 : W7.cell? ⟨g, 2, none⟩ = some (.string z2) := by rw [hW7]; exact (cell_top _ _ _ _ _ hg).trans rfl
        have e3 : W7.cell? ⟨g, 3, none⟩ = some (.int .i64 z3) := by rw [hW7]; exact (cell_top _ _ _ _ _ hg).trans rfl
        have e4 : W7.cell? ⟨g, 4, none⟩ = some (.slice zd zl zc) := by rw [hW7]; exact (cell_top _ _ _ _ _ hg).trans rfl
        have HZ7 := Lib.hid (AskV.below hbn _ _ HZ.out)
        clear hbn hW7 hg
        cases O with
        | none =>
          obtain rfl : ec = 3 := HEC.out
          obtain rfl : ob = false := HOB.out.symm
          have HSM := Lib.hid (same_any zA _ _ W7 (AskV.below H27.out _ _ HY.out) (zA_v W7))
          go_wp2_with fail
          refine Calls.mono HSM.out ?_
          rintro e W8 ⟨rfl, hbn⟩
          have HB8 := Lib.hid (HB7.out.trans (hbn.mono HB7.out.size))
          clear hbn
          go_wp2_with fail
          go_ret
          exact ⟨rfl, HB8.out⟩
        | some q =>
          obtain rfl : ec = 0 := HEC.out
          obtain rfl : ob = true := HOB.out.symm
          have hy1 := HY.out
          have hz1 := HZ7.out
          rw [Option.getD_some] at hy1 hz1
          have HSM := Lib.hid (same_any q _ _ W7 (AskV.below H27.out _ _ hy1) hz1)
          clear hy1 hz1
          go_wp2_with fail
          refine Calls.mono HSM.out ?_
          rintro e W8 ⟨rfl, hbn⟩
          have HB8 := Lib.hid (HB7.out.trans (hbn.mono HB7.out.size))
          clear hbn
          go_wp2_with fail
          go_ret
          exact ⟨rfl, HB8.out⟩
end Go.Proofs.YtddcaabhbbdbpaaDoor
