/- The law NeedReads: walked. -/
import Derived.Test.YtgpkjlogofpckaaDoorNeedReadP
import Derived.Test.YtgpkjlogofpckaaDoorNeedRead
namespace Go.Proofs.YtgpkjlogofpckaaDoor
open Go.ChangeShapes Go.WideShapes Go.ChangeAt Go.RowKit
set_option linter.unusedVariables false
set_option linter.unusedSimpArgs false
open Tp Nt
/-- the text that need.Text tells -/
def txtOf (a b c : Int) : ByteArray := if needB a b c then bts (needText (a.toNat, b.toNat, c.toNat)) else ⟨#[]⟩
theorem can_of {a b c : Int} (h : needB a b c = true) : Nt.Can (a.toNat, b.toNat, c.toNat) := by
  obtain ⟨h1, h2, h3⟩ := needB_yes h
  exact ⟨by show a.toNat < _; omega, by show b.toNat < _; omega, by show c.toNat < _; omega⟩
set_option maxRecDepth 20000 in
set_option maxHeartbeats 4000000 in
theorem Text_any (a b c : Int) (w : World) (he : Env w) : Calls Tryd.prog 4 #[.agg #[.int .i64 a, .int .i64 b, .int .i64 c]] w fun e w' => e = .returned (.tuple #[.string (txtOf a b c), .int .i64 (needE a b c)]) ∧ Below w.heap.size w w' := by
  obtain ⟨W0, hW0⟩ : ∃ W, W = w.alloc (.cells #[.int .i64 a, .int .i64 b, .int .i64 c] 23) := ⟨_, rfl⟩
  obtain ⟨B, hB⟩ : ∃ B, w.heap.size = B := ⟨_, rfl⟩
  have hb : Below w.heap.size w W0 := by rw [hW0]; exact (Below.refl _ _).alloc (Nat.le_refl _) _
  have m0 : W0.cell? ⟨B, 0, none⟩ = some (.int .i64 a) := by rw [hW0]; exact (topCell _ _ _ B 0 hB.symm).trans rfl
  have m1 : W0.cell? ⟨B, 1, none⟩ = some (.int .i64 b) := by rw [hW0]; exact (topCell _ _ _ B 1 hB.symm).trans rfl
  have m2 : W0.cell? ⟨B, 2, none⟩ = some (.int .i64 c) := by rw [hW0]; exact (topCell _ _ _ B 2 hB.symm).trans rfl
  have hBl : B < W0.heap.size := by rw [hW0, ← hB]; simp
  have HE0 := Lib.hid (he.below hb (Nat.le_refl _))
  have HBL := Lib.hid hb
  have HB := Lib.hid hB
  cases hn : needB a b c with
  | false =>
    have HT : Hid ((⟨#[]⟩ : ByteArray) = txtOf a b c) := Lib.hid (by unfold txtOf; rw [hn]; rfl)
    have hE : needE a b c = 4 := by unfold needE; rw [hn]; rfl
    have HC := Lib.hid (fun W => Check_any a b c W)
    rw [hE] at HC ⊢
    rw [← HT.out]
    clear hn hE he hb
    go_enter Tryd.func4, Tryd.ntmps4
    go_upto_region 1 with fail
    rw [← hW0]
    clear hW0
    clear hB
    go_wp2_with fail
    refine Calls.mono (HC.out _) ?_
    rintro e w1 ⟨rfl, hb1⟩
    have HB1 := Lib.hid hb1
    clear hb1
    go_wp2_with fail
    go_ret2
    exact ⟨rfl, HBL.out.trans (HB1.out.mono HBL.out.size)⟩
  | true =>
    have hE : needE a b c = 0 := by unfold needE; rw [hn]; rfl
    have HC := Lib.hid (fun W => Check_any a b c W)
    have hcan := can_of hn
    obtain ⟨b1, b2, b3⟩ := needB_yes hn
    have HX : Hid (∀ W, Env W → Calls Tryd.prog 10 #[.agg #[.int .i64 a, .int .i64 b, .int .i64 c]] W fun e w' => e = .returned (.string (txtOf a b c)) ∧ Below W.heap.size W w') := Lib.hid (fun W hW => by
      have := text_any a.toNat b.toNat c.toNat hcan W hW
      rw [show ((a.toNat : Nat) : Int) = a from by omega, show ((b.toNat : Nat) : Int) = b from by omega, show ((c.toNat : Nat) : Int) = c from by omega] at this
      unfold txtOf
      rw [hn]
      exact this)
    obtain ⟨T, hT⟩ : ∃ T, txtOf a b c = T := ⟨_, rfl⟩
    rw [hT] at HX ⊢
    rw [hE] at HC ⊢
    clear hn hE he hb hcan b1 b2 b3 hT
    go_enter Tryd.func4, Tryd.ntmps4
    go_upto_region 1 with fail
    rw [← hW0]
    clear hW0
    clear hB
    go_wp2_with fail
    refine Calls.mono (HC.out _) ?_
    rintro e w1 ⟨rfl, hb1⟩
    replace m0 := (hb1.cell (p := ⟨B, 0, none⟩) hBl).trans m0
    replace m1 := (hb1.cell (p := ⟨B, 1, none⟩) hBl).trans m1
    replace m2 := (hb1.cell (p := ⟨B, 2, none⟩) hBl).trans m2
    have HB1 := Lib.hid hb1
    clear hb1
    go_wp2_with fail
    refine Calls.mono (HX.out _ (HE0.out.below HB1.out (Nat.le_refl _))) ?_
    rintro e w2 ⟨rfl, hb2⟩
    have HB2 := Lib.hid hb2
    clear hb2
    go_wp2_with fail
    go_ret2
    exact ⟨rfl, HBL.out.trans ((HB1.out.trans (HB2.out.mono HB1.out.size)).mono HBL.out.size)⟩
set_option maxRecDepth 20000 in
set_option maxHeartbeats 8000000 in
theorem law_any (a b c : Int) (s : Bs) (w : World) (hs : s.length < 4294967281) (he : Env w) : Calls Tryd.prog 3 #[.agg #[.int .i64 a, .int .i64 b, .int .i64 c], .string (bts s)] w fun e w' => e = .returned (.bool true) ∧ Below w.heap.size w w' := by
  obtain ⟨W0, hW0⟩ : ∃ W, W = w.alloc (.cells #[.int .i64 a, .int .i64 b, .int .i64 c] 23) := ⟨_, rfl⟩
  obtain ⟨B, hB⟩ : ∃ B, w.heap.size = B := ⟨_, rfl⟩
  have hb : Below w.heap.size w W0 := by rw [hW0]; exact (Below.refl _ _).alloc (Nat.le_refl _) _
  have m0 : W0.cell? ⟨B, 0, none⟩ = some (.int .i64 a) := by rw [hW0]; exact (topCell _ _ _ B 0 hB.symm).trans rfl
  have m1 : W0.cell? ⟨B, 1, none⟩ = some (.int .i64 b) := by rw [hW0]; exact (topCell _ _ _ B 1 hB.symm).trans rfl
  have m2 : W0.cell? ⟨B, 2, none⟩ = some (.int .i64 c) := by rw [hW0]; exact (topCell _ _ _ B 2 hB.symm).trans rfl
  have hBl : B < W0.heap.size := by rw [hW0, ← hB]; simp
  have HBL := Lib.hid hb
  have HB := Lib.hid hB
  have HEV : Hid (∀ W, Below w.heap.size w W → Env W) := Lib.hid (fun W h => he.below h (Nat.le_refl _))
  obtain ⟨S, hS⟩ : ∃ S, bts s = S := ⟨_, rfl⟩
  obtain ⟨T, hT⟩ : ∃ T, txtOf a b c = T := ⟨_, rfl⟩
  have HT := Lib.hid hT
  have HTX := Lib.hid (fun W h => Text_any a b c W h)
  have HRP := Lib.hid (fun W h => Read_any s W hs h)
  have HRR := Lib.hid (fun W => NeedRead_any s W (by omega))
  have HFA := Lib.hid (fun W => needFault_any a b c W)
  rw [own_same s] at HRP
  unfold rdVal at HRP HRR
  obtain ⟨p, hp⟩ : ∃ p, (readOf (own (readR s) s)).1.1 = p := ⟨_, rfl⟩
  obtain ⟨q, hq⟩ : ∃ p, (readOf (own (readR s) s)).1.2.1 = p := ⟨_, rfl⟩
  obtain ⟨r, hr⟩ : ∃ p, (readOf (own (readR s) s)).1.2.2 = p := ⟨_, rfl⟩
  obtain ⟨ec, hec⟩ : ∃ p, (readOf (own (readR s) s)).2 = p := ⟨_, rfl⟩
  rw [hp, hq, hr, hec, hS] at HRP HRR
  rw [hT] at HTX
  rw [hS]
  obtain ⟨ne, hne⟩ : ∃ e, needE a b c = e := ⟨_, rfl⟩
  have HNE := Lib.hid hne
  rw [hne] at HTX HFA
  clear hb hS hT hp hq hr hec he hs hne
  go_enter Tryd.func3, Tryd.ntmps3
  go_upto_region 1 with fail
  rw [← hW0]
  clear hW0
  clear hB
  go_wp2_with fail
  refine Calls.mono (HTX.out _ (HEV.out _ HBL.out)) ?_
  rintro e w1 ⟨rfl, hb1⟩
  replace m0 := (hb1.cell (p := ⟨B, 0, none⟩) hBl).trans m0
  replace m1 := (hb1.cell (p := ⟨B, 1, none⟩) hBl).trans m1
  replace m2 := (hb1.cell (p := ⟨B, 2, none⟩) hBl).trans m2
  replace hBl := Nat.lt_of_lt_of_le hBl hb1.size
  have HBL1 := Lib.hid (HBL.out.trans (hb1.mono HBL.out.size))
  clear hb1
  go_wp2_with fail
  refine Calls.mono (HRP.out _ (HEV.out _ HBL1.out)) ?_
  rintro e w2 ⟨rfl, hb2⟩
  replace m0 := (hb2.cell (p := ⟨B, 0, none⟩) hBl).trans m0
  replace m1 := (hb2.cell (p := ⟨B, 1, none⟩) hBl).trans m1
  replace m2 := (hb2.cell (p := ⟨B, 2, none⟩) hBl).trans m2
  replace hBl := Nat.lt_of_lt_of_le hBl hb2.size
  have HBL2 := Lib.hid (HBL1.out.trans (hb2.mono HBL1.out.size))
  clear hb2
  obtain ⟨W3, hW3⟩ : ∃ W, W = w2.alloc (.cells #[.int .i64 (p : Int), .int .i64 (q : Int), .int .i64 (r : Int)] 23) := ⟨_, rfl⟩
  obtain ⟨C, hC⟩ : ∃ C, w2.heap.size = C := ⟨_, rfl⟩
  have hb3 : Below w2.heap.size w2 W3 := by rw [hW3]; exact (Below.refl _ _).alloc (Nat.le_refl _) _
  have k0 : W3.cell? ⟨C, 0, none⟩ = some (.int .i64 (p : Int)) := by rw [hW3]; exact (topCell _ _ _ C 0 hC.symm).trans rfl
  have k1 : W3.cell? ⟨C, 1, none⟩ = some (.int .i64 (q : Int)) := by rw [hW3]; exact (topCell _ _ _ C 1 hC.symm).trans rfl
  have k2 : W3.cell? ⟨C, 2, none⟩ = some (.int .i64 (r : Int)) := by rw [hW3]; exact (topCell _ _ _ C 2 hC.symm).trans rfl
  replace m0 := (hb3.cell (p := ⟨B, 0, none⟩) hBl).trans m0
  replace m1 := (hb3.cell (p := ⟨B, 1, none⟩) hBl).trans m1
  replace m2 := (hb3.cell (p := ⟨B, 2, none⟩) hBl).trans m2
  replace hBl := Nat.lt_of_lt_of_le hBl hb3.size
  have hCl : C < W3.heap.size := by rw [hW3, ← hC]; simp
  have HBL3 := Lib.hid (HBL2.out.trans (hb3.mono HBL2.out.size))
  clear hb3
  go_upto_region 3 with fail
  rw [← hW3]
  clear hW3 hC
  go_wp2_with fail
  refine Calls.mono (HRR.out _) ?_
  rintro e w4 ⟨rfl, hb4⟩
  replace m0 := (hb4.cell (p := ⟨B, 0, none⟩) hBl).trans m0
  replace m1 := (hb4.cell (p := ⟨B, 1, none⟩) hBl).trans m1
  replace m2 := (hb4.cell (p := ⟨B, 2, none⟩) hBl).trans m2
  replace hBl := Nat.lt_of_lt_of_le hBl hb4.size
  replace k0 := (hb4.cell (p := ⟨C, 0, none⟩) hCl).trans k0
  replace k1 := (hb4.cell (p := ⟨C, 1, none⟩) hCl).trans k1
  replace k2 := (hb4.cell (p := ⟨C, 2, none⟩) hCl).trans k2
  replace hCl := Nat.lt_of_lt_of_le hCl hb4.size
  have HBL4 := Lib.hid (HBL3.out.trans (hb4.mono HBL3.out.size))
  clear hb4
  go_wp2_with fail
  refine Calls.mono (HFA.out _) ?_
  rintro e w5 ⟨rfl, hb5⟩
  have h45 : Below w4.heap.size w4 w5 := ((Below.refl _ _).alloc (Nat.le_refl _) _).trans (hb5.mono (by simp))
  replace m0 := (h45.cell (p := ⟨B, 0, none⟩) hBl).trans m0
  replace m1 := (h45.cell (p := ⟨B, 1, none⟩) hBl).trans m1
  replace m2 := (h45.cell (p := ⟨B, 2, none⟩) hBl).trans m2
  have HBL5 := Lib.hid (HBL4.out.trans (h45.mono HBL4.out.size))
  clear hb5 h45 hBl hCl k0 k1 k2
  cases hn : needB a b c with
  | false =>
    obtain rfl : T = (⟨#[]⟩ : ByteArray) := by rw [← HT.out]; unfold txtOf; rw [hn]; rfl
    obtain rfl : ne = 4 := by rw [← HNE.out]; unfold needE; rw [hn]; rfl
    clear hn
    go_wp2_with fail
    go_ret
    exact ⟨rfl, HBL5.out⟩
  | true =>
    obtain rfl : ne = 0 := by rw [← HNE.out]; unfold needE; rw [hn]; rfl
    have hcan := can_of hn
    obtain ⟨b1, b2, b3⟩ := needB_yes hn
    have HX : Hid (∀ W, Calls Tryd.prog 8 #[.agg #[.int .i64 a, .int .i64 b, .int .i64 c]] W fun e w' => e = .returned (.string T) ∧ Below W.heap.size W w') := Lib.hid (fun W => by
      have := NeedText_any a.toNat b.toNat c.toNat hcan W
      rw [show ((a.toNat : Nat) : Int) = a from by omega, show ((b.toNat : Nat) : Int) = b from by omega, show ((c.toNat : Nat) : Int) = c from by omega] at this
      rw [← HT.out]
      unfold txtOf
      rw [hn]
      exact this)
    clear hn hcan b1 b2 b3
    go_wp2_with fail
    refine Calls.mono (HX.out _) ?_
    rintro e w6 ⟨rfl, hb6⟩
    have HBL6 := Lib.hid (HBL5.out.trans (hb6.mono HBL5.out.size))
    clear hb6
    go_wp2_with fail
    go_ret
    exact ⟨by simp, HBL6.out⟩
end Go.Proofs.YtgpkjlogofpckaaDoor
