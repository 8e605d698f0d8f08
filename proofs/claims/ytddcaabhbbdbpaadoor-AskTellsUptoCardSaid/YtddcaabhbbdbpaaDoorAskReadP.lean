/- Contracts: the program's Text and Read of an ask. -/
import Derived.Test.YtddcaabhbbdbpaaDoorAskAsk
import Derived.Test.YtddcaabhbbdbpaaDoorAskText
namespace Go.Proofs.YtddcaabhbbdbpaaDoor
open Go.ChangeShapes Go.WideShapes Go.ChangeAt Go.RowKit
set_option linter.unusedVariables false
set_option linter.unusedSimpArgs false
open Tp
/-- the text that ask.Text tells -/
def askTxtOf (x : Ask) : ByteArray := if x.fault = 0 then bts (Ar.txt x) else ⟨#[]⟩
set_option maxRecDepth 20000 in
set_option maxHeartbeats 4000000 in
theorem askText_any (x : Ask) (v : Value) (w : World) (hs : x.size ≤ 1000000000) (he : Env w) (hx : AskV w x v) : Calls Tryd.prog 4 #[v] w fun e w' => e = .returned (.tuple #[.string (askTxtOf x), .int .i64 x.fault]) ∧ Below w.heap.size w w' := by
  obtain ⟨x0, x1, x2, x3, xd, xl, xc, rfl⟩ := hx.form
  obtain ⟨B, hB⟩ : ∃ B, B = w.heap.size := ⟨_, rfl⟩
  obtain ⟨W0, hW0⟩ : ∃ W, W = w.alloc (.cells #[.int .i64 x0, .string x1, .string x2, .int .i64 x3, .slice xd xl xc] 24) := ⟨_, rfl⟩
  have hb : Below w.heap.size w W0 := by rw [hW0]; exact (Below.refl _ _).alloc (Nat.le_refl _) _
  have HX0 := Lib.hid (AskV.below hb _ _ hx)
  have HE0 := Lib.hid (he.below hb (Nat.le_refl _))
  have HBL := Lib.hid hb
  have m0 : W0.cell? ⟨B, 0, none⟩ = some (.int .i64 x0) := by rw [hW0]; exact (cell_top _ _ _ _ _ hB).trans rfl
  have m1 : W0.cell? ⟨B, 1, none⟩ = some (.string x1) := by rw [hW0]; exact (cell_top _ _ _ _ _ hB).trans rfl
  have m2 : W0.cell? ⟨B, 2, none⟩ = some (.string x2) := by rw [hW0]; exact (cell_top _ _ _ _ _ hB).trans rfl
  have m3 : W0.cell? ⟨B, 3, none⟩ = some (.int .i64 x3) := by rw [hW0]; exact (cell_top _ _ _ _ _ hB).trans rfl
  have m4 : W0.cell? ⟨B, 4, none⟩ = some (.slice xd xl xc) := by rw [hW0]; exact (cell_top _ _ _ _ _ hB).trans rfl
  have hBl : B < W0.heap.size := by rw [hW0, hB]; simp
  have HC := Lib.hid (askCheck_any x _ W0 hs HX0.out)
  obtain ⟨f, hf⟩ : ∃ f, x.fault = f := ⟨_, rfl⟩
  have HF := Lib.hid hf
  rw [hf] at HC ⊢
  obtain ⟨T, hT⟩ : ∃ T, askTxtOf x = T := ⟨_, rfl⟩
  have HT := Lib.hid hT
  rw [hT]
  clear hb hx he hs hf hT
  go_enter Tryd.func4, Tryd.ntmps4
  go_upto_region 1 with fail
  rw [← hW0, ← hB]
  clear hW0 hB
  go_wp2_with fail
  refine Calls.mono HC.out ?_
  rintro e w1 ⟨rfl, hb1⟩
  have HB1 := Lib.hid hb1
  replace m0 := (hb1.cell (p := ⟨B, 0, none⟩) hBl).trans m0
  replace m1 := (hb1.cell (p := ⟨B, 1, none⟩) hBl).trans m1
  replace m2 := (hb1.cell (p := ⟨B, 2, none⟩) hBl).trans m2
  replace m3 := (hb1.cell (p := ⟨B, 3, none⟩) hBl).trans m3
  replace m4 := (hb1.cell (p := ⟨B, 4, none⟩) hBl).trans m4
  clear hb1
  by_cases h0 : f = 0
  · subst h0
    have hg := HF.out
    have HG : Hid (x.err = 0 ∧ x.size ≤ 60) := Lib.hid (by
      unfold Ask.fault at hg
      split at hg
      · cases hg
      · exact ⟨hg, by omega⟩)
    have HTX : Hid (bts (Ar.txt x) = T) := Lib.hid (by rw [← HT.out]; unfold askTxtOf; rw [if_pos HF.out])
    have HTT := Lib.hid (text_all x.size x _ w1 (Nat.le_refl _) HG.out.2 HG.out.1 (HE0.out.below HB1.out (Nat.le_refl _)) (AskV.below HB1.out _ _ HX0.out))
    rw [HTX.out] at HTT
    clear hg
    go_wp2_with fail
    refine Calls.mono HTT.out ?_
    rintro e w2 ⟨rfl, hb2⟩
    have HB2 := Lib.hid hb2
    clear hb2
    go_wp2_with fail
    go_ret2
    exact ⟨rfl, HBL.out.trans ((HB1.out.trans (HB2.out.mono HB1.out.size)).mono HBL.out.size)⟩
  · have hz : (f == 0) = false := by simpa using h0
    have HTX : Hid ((⟨#[]⟩ : ByteArray) = T) := Lib.hid (by rw [← HT.out]; unfold askTxtOf; rw [if_neg (by rw [HF.out]; exact h0)])
    clear h0
    go_wp2_with fail
    go_ret2
    exact ⟨by rw [← HTX.out]; rfl, HBL.out.trans (HB1.out.mono HBL.out.size)⟩
end Go.Proofs.YtddcaabhbbdbpaaDoor
