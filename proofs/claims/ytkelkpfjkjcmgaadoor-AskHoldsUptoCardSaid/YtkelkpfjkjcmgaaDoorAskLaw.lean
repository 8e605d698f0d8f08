/- Contract: the law AskHolds is true. -/
import Derived.Test.YtkelkpfjkjcmgaaDoorAskAll
import Derived.Test.YtkelkpfjkjcmgaaDoorAskNormT
import Derived.Test.YtkelkpfjkjcmgaaDoorAskPush
import Derived.Test.YtkelkpfjkjcmgaaDoorAskHolds
import Derived.Test.YtkelkpfjkjcmgaaDoorAskRefH
import Derived.Test.YtkelkpfjkjcmgaaDoorAskFault
import Derived.Test.YtkelkpfjkjcmgaaDoorAskSame
namespace Go.Proofs.YtkelkpfjkjcmgaaDoor
open Go.ChangeShapes Go.WideShapes Go.ChangeAt Go.RowKit
set_option linter.unusedVariables false
open Tp
set_option maxRecDepth 20000 in
set_option maxHeartbeats 64000000 in
theorem askLaw_any (x y : Ask) (h : Hst) (vx vy vh : Value) (w : World) (hsx : x.size ≤ 1000000000) (hsy : y.size ≤ 1000000000) (hp : Pow w) (hx : AskV w x vx) (hy : AskV w y vy) (hh : HostV w h vh) : Calls Tryd.prog 3 #[vx, vy, vh] w fun e w' => e = .returned (.bool true) ∧ Below w.heap.size w w' := by
  obtain ⟨k, a1, a2, nu, ad, n, cap, rfl⟩ := hx.form
  obtain ⟨k', a1', a2', nu', ad', n', cap', rfl⟩ := hy.form
  have hh2 := hh
  obtain ⟨la, ln, lc, rfl, hq⟩ := hh
  clear hq
  obtain ⟨a3, ha3⟩ : ∃ s, bts h.name = s := ⟨_, rfl⟩
  rw [ha3] at hh2 ⊢
  obtain ⟨Wa, hWa⟩ : ∃ W, W = w.alloc (.cells #[.int .i64 k, .string a1, .string a2, .int .i64 nu, .slice ad n cap] 24) := ⟨_, rfl⟩
  obtain ⟨Wb, hWb⟩ : ∃ W, W = Wa.alloc (.cells #[.int .i64 k', .string a1', .string a2', .int .i64 nu', .slice ad' n' cap'] 24) := ⟨_, rfl⟩
  obtain ⟨W0, hW0⟩ : ∃ W, W = Wb.alloc (.cells #[.string a3, .slice la ln lc, .int .i64 h.has.cpu, .int .i64 h.has.mem, .int .i64 h.has.gpu, .int .i64 h.used.cpu, .int .i64 h.used.mem, .int .i64 h.used.gpu] 29) := ⟨_, rfl⟩
  have hba : Below w.heap.size w Wa := by rw [hWa]; exact (Below.refl _ _).alloc (Nat.le_refl _) _
  have hbb : Below Wa.heap.size Wa Wb := by rw [hWb]; exact (Below.refl _ _).alloc (Nat.le_refl _) _
  have hbc : Below Wb.heap.size Wb W0 := by rw [hW0]; exact (Below.refl _ _).alloc (Nat.le_refl _) _
  have hb9 : Below w.heap.size w W0 := (hba.trans (hbb.mono hba.size)).trans (hbc.mono (Nat.le_trans hba.size hbb.size))
  have HB9 := Lib.hid hb9
  obtain ⟨cx, hcx⟩ : ∃ c, c = w.heap.size := ⟨_, rfl⟩
  have hsa : Wa.heap.size = cx + 1 := by rw [hWa, hcx]; simp
  have hsb : Wb.heap.size = cx + 2 := by rw [hWb]; simp; omega
  have hsz : W0.heap.size = cx + 3 := by rw [hW0]; simp; omega
  have x0_0 : W0.cell? ⟨cx, 0, none⟩ = some (.int .i64 k) := (hbc.cell (p := ⟨cx, 0, none⟩) (by show cx < _; omega)).trans ((hbb.cell (p := ⟨cx, 0, none⟩) (by show cx < _; omega)).trans (by rw [hWa]; exact (cell_top _ _ _ _ _ hcx).trans rfl))
  have x1_0 : W0.cell? ⟨cx, 1, none⟩ = some (.string a1) := (hbc.cell (p := ⟨cx, 1, none⟩) (by show cx < _; omega)).trans ((hbb.cell (p := ⟨cx, 1, none⟩) (by show cx < _; omega)).trans (by rw [hWa]; exact (cell_top _ _ _ _ _ hcx).trans rfl))
  have x2_0 : W0.cell? ⟨cx, 2, none⟩ = some (.string a2) := (hbc.cell (p := ⟨cx, 2, none⟩) (by show cx < _; omega)).trans ((hbb.cell (p := ⟨cx, 2, none⟩) (by show cx < _; omega)).trans (by rw [hWa]; exact (cell_top _ _ _ _ _ hcx).trans rfl))
  have x3_0 : W0.cell? ⟨cx, 3, none⟩ = some (.int .i64 nu) := (hbc.cell (p := ⟨cx, 3, none⟩) (by show cx < _; omega)).trans ((hbb.cell (p := ⟨cx, 3, none⟩) (by show cx < _; omega)).trans (by rw [hWa]; exact (cell_top _ _ _ _ _ hcx).trans rfl))
  have x4_0 : W0.cell? ⟨cx, 4, none⟩ = some (.slice ad n cap) := (hbc.cell (p := ⟨cx, 4, none⟩) (by show cx < _; omega)).trans ((hbb.cell (p := ⟨cx, 4, none⟩) (by show cx < _; omega)).trans (by rw [hWa]; exact (cell_top _ _ _ _ _ hcx).trans rfl))
  have lx_0 : cx < W0.heap.size := by omega
  have y0_0 : W0.cell? ⟨cx + 1, 0, none⟩ = some (.int .i64 k') := (hbc.cell (p := ⟨cx + 1, 0, none⟩) (by show cx + 1 < _; omega)).trans (by rw [hWb]; exact (cell_top _ _ _ _ _ hsa.symm).trans rfl)
  have y1_0 : W0.cell? ⟨cx + 1, 1, none⟩ = some (.string a1') := (hbc.cell (p := ⟨cx + 1, 1, none⟩) (by show cx + 1 < _; omega)).trans (by rw [hWb]; exact (cell_top _ _ _ _ _ hsa.symm).trans rfl)
  have y2_0 : W0.cell? ⟨cx + 1, 2, none⟩ = some (.string a2') := (hbc.cell (p := ⟨cx + 1, 2, none⟩) (by show cx + 1 < _; omega)).trans (by rw [hWb]; exact (cell_top _ _ _ _ _ hsa.symm).trans rfl)
  have y3_0 : W0.cell? ⟨cx + 1, 3, none⟩ = some (.int .i64 nu') := (hbc.cell (p := ⟨cx + 1, 3, none⟩) (by show cx + 1 < _; omega)).trans (by rw [hWb]; exact (cell_top _ _ _ _ _ hsa.symm).trans rfl)
  have y4_0 : W0.cell? ⟨cx + 1, 4, none⟩ = some (.slice ad' n' cap') := (hbc.cell (p := ⟨cx + 1, 4, none⟩) (by show cx + 1 < _; omega)).trans (by rw [hWb]; exact (cell_top _ _ _ _ _ hsa.symm).trans rfl)
  have ly_0 : cx + 1 < W0.heap.size := by omega
  have h0_0 : W0.cell? ⟨cx + 2, 0, none⟩ = some (.string a3) := by rw [hW0]; exact (cell_top _ _ _ _ _ hsb.symm).trans rfl
  have h1_0 : W0.cell? ⟨cx + 2, 1, none⟩ = some (.slice la ln lc) := by rw [hW0]; exact (cell_top _ _ _ _ _ hsb.symm).trans rfl
  have h2_0 : W0.cell? ⟨cx + 2, 2, none⟩ = some (.int .i64 h.has.cpu) := by rw [hW0]; exact (cell_top _ _ _ _ _ hsb.symm).trans rfl
  have h3_0 : W0.cell? ⟨cx + 2, 3, none⟩ = some (.int .i64 h.has.mem) := by rw [hW0]; exact (cell_top _ _ _ _ _ hsb.symm).trans rfl
  have h4_0 : W0.cell? ⟨cx + 2, 4, none⟩ = some (.int .i64 h.has.gpu) := by rw [hW0]; exact (cell_top _ _ _ _ _ hsb.symm).trans rfl
  have h5_0 : W0.cell? ⟨cx + 2, 5, none⟩ = some (.int .i64 h.used.cpu) := by rw [hW0]; exact (cell_top _ _ _ _ _ hsb.symm).trans rfl
  have h6_0 : W0.cell? ⟨cx + 2, 6, none⟩ = some (.int .i64 h.used.mem) := by rw [hW0]; exact (cell_top _ _ _ _ _ hsb.symm).trans rfl
  have h7_0 : W0.cell? ⟨cx + 2, 7, none⟩ = some (.int .i64 h.used.gpu) := by rw [hW0]; exact (cell_top _ _ _ _ _ hsb.symm).trans rfl
  have lh_0 : cx + 2 < W0.heap.size := by omega
  have HBW0 : Hid (Below W0.heap.size W0 W0) := Lib.hid (Below.refl _ _)
  have HXV := Lib.hid (AskV.below hb9 _ _ hx)
  have HYV := Lib.hid (AskV.below hb9 _ _ hy)
  have HHV := Lib.hid (hh2.below hb9)
  have HP := Lib.hid (hp.below hb9)
  have HSX := Lib.hid hsx
  have HSY := Lib.hid hsy
  rw [hWb, hWa] at hW0
  clear hx hy hh2 hp hsx hsy hb9 ha3 hsz hba hbb hbc hsa hsb hWa hWb
  have HFX : Hid (∀ W, Below W0.heap.size W0 W → Calls Tryd.prog 7 #[.agg #[.int .i64 k, .string a1, .string a2, .int .i64 nu, .slice ad n cap]] W fun e w' => e = .returned (.int .i64 x.fault) ∧ Below W.heap.size W w') := Lib.hid (fun W hW => AskFault_any x _ W HSX.out (AskV.below hW _ _ HXV.out))
  have HCH := Lib.hid (Holds_any x h _ _ W0 HSX.out HXV.out HHV.out)
  have HCN : Hid (∀ W, Below W0.heap.size W0 W → Calls Tryd.prog 5 #[.agg #[.int .i64 k, .string a1, .string a2, .int .i64 nu, .slice ad n cap]] W (NormQ W x)) := Lib.hid (fun W hW => Norm_any x _ W HSX.out (AskV.below hW _ _ HXV.out))
  have HCA : Hid (∀ W, Below W0.heap.size W0 W → Calls Tryd.prog 6 #[.agg #[.int .i64 k, .string a1, .string a2, .int .i64 nu, .slice ad n cap], .agg #[.int .i64 k', .string a1', .string a2', .int .i64 nu', .slice ad' n' cap']] W (fun e w' => e = .returned (.tuple #[.bool (alikeB x y), .int .i64 (alikeE x y)]) ∧ Below W.heap.size W w')) := Lib.hid (fun W hW => Alike_any x y _ _ W HSX.out HSY.out (HP.out.below hW) (AskV.below hW _ _ HXV.out) (AskV.below hW _ _ HYV.out))
  unfold NormQ at HCN
  by_cases hf : x.fault = 0
  · obtain ⟨herr, hsx⟩ := fault_err hf
    have HERR := Lib.hid herr
    have HSX6 := Lib.hid hsx
    have HF := Lib.hid hf
    have hho : x.holds h = x.ev (atomB h) := by unfold Ask.holds; rw [if_pos hf]
    rw [hf, hho] at HCH
    rw [hf] at HFX
    obtain ⟨va, hva⟩ : ∃ b, x.ev (atomB h) = b := ⟨_, rfl⟩
    rw [hva] at HCH
    have HCR : Hid (∀ W, Below W0.heap.size W0 W → Calls Tryd.prog 9 #[.agg #[.int .i64 k, .string a1, .string a2, .int .i64 nu, .slice ad n cap], .agg #[.string a3, .slice la ln lc, .int .i64 h.has.cpu, .int .i64 h.has.mem, .int .i64 h.has.gpu, .int .i64 h.used.cpu, .int .i64 h.used.mem, .int .i64 h.used.gpu]] W fun e w' => e = .returned (.bool va) ∧ Below W.heap.size W w') := Lib.hid (fun W hW => by rw [← hva]; exact refHolds_any h x _ _ W HERR.out (AskV.below hW _ _ HXV.out) (HHV.out.below hW))
    have HPU : Hid (∀ W, Below W0.heap.size W0 W → Calls Tryd.prog 10 #[.agg #[.int .i64 k, .string a1, .string a2, .int .i64 nu, .slice ad n cap]] W (NrmQ W.heap.size W (x.nrm false))) := Lib.hid (fun W hW => Pushed_any x _ W HERR.out (AskV.below hW _ _ HXV.out))
    unfold NrmQ at HPU
    obtain ⟨ab, hab⟩ : ∃ b, alikeB x y = b := ⟨_, rfl⟩
    obtain ⟨ae, hae⟩ : ∃ b, alikeE x y = b := ⟨_, rfl⟩
    obtain ⟨ne, hne⟩ : ∃ b, x.normE = b := ⟨_, rfl⟩
    obtain ⟨nx, hnx⟩ : ∃ b, x.normV = b := ⟨_, rfl⟩
    obtain ⟨z, hz⟩ : ∃ b, (x.nrm false).size = b := ⟨_, rfl⟩
    obtain ⟨fy, hfy⟩ : ∃ b, y.fault = b := ⟨_, rfl⟩
    rw [hab, hae] at HCA
    rw [hne, hnx] at HCN
    have HAB := Lib.hid hab
    have HAE := Lib.hid hae
    have HNE := Lib.hid hne
    have HNX := Lib.hid hnx
    have HZ := Lib.hid hz
    have HFYE := Lib.hid hfy
    have HFY : Hid (∀ W, Below W0.heap.size W0 W → Calls Tryd.prog 7 #[.agg #[.int .i64 k', .string a1', .string a2', .int .i64 nu', .slice ad' n' cap']] W fun e w' => e = .returned (.int .i64 fy) ∧ Below W.heap.size W w') := Lib.hid (fun W hW => by rw [← hfy]; exact AskFault_any y _ W HSY.out (AskV.below hW _ _ HYV.out))
    have HSZ : Hid (∀ W v, AskV W (x.nrm false) v → Calls Tryd.prog 11 #[v] W fun e w' => e = .returned (.int .i64 (z : Int)) ∧ Below W.heap.size W w') := Lib.hid (fun W v hv => by rw [← hz]; exact askSize_any _ v W (by have := Ask.nrm_size false x; have := HSX6.out; omega) hv)
    clear hf herr hsx hho hva hab hae hne hnx hz hfy
    go_enter Tryd.func3, Tryd.ntmps3
    go_upto_region 1 with fail
    rw [← hW0, ← hcx]
    clear hW0 hcx
    go_wp2_with fail
    refine Calls.mono (HCH.out) ?_
    rintro e' W1 ⟨rfl, hl⟩
    have HBW1 := Lib.hid (HBW0.out.trans (hl.mono HBW0.out.size))
    have x0_1 := (hl.cell (p := ⟨cx, 0, none⟩) lx_0).trans x0_0
    have x1_1 := (hl.cell (p := ⟨cx, 1, none⟩) lx_0).trans x1_0
    have x2_1 := (hl.cell (p := ⟨cx, 2, none⟩) lx_0).trans x2_0
    have x3_1 := (hl.cell (p := ⟨cx, 3, none⟩) lx_0).trans x3_0
    have x4_1 := (hl.cell (p := ⟨cx, 4, none⟩) lx_0).trans x4_0
    have lx_1 := Nat.lt_of_lt_of_le lx_0 hl.size
    have y0_1 := (hl.cell (p := ⟨cx + 1, 0, none⟩) ly_0).trans y0_0
    have y1_1 := (hl.cell (p := ⟨cx + 1, 1, none⟩) ly_0).trans y1_0
    have y2_1 := (hl.cell (p := ⟨cx + 1, 2, none⟩) ly_0).trans y2_0
    have y3_1 := (hl.cell (p := ⟨cx + 1, 3, none⟩) ly_0).trans y3_0
    have y4_1 := (hl.cell (p := ⟨cx + 1, 4, none⟩) ly_0).trans y4_0
    have ly_1 := Nat.lt_of_lt_of_le ly_0 hl.size
    have h0_1 := (hl.cell (p := ⟨cx + 2, 0, none⟩) lh_0).trans h0_0
    have h1_1 := (hl.cell (p := ⟨cx + 2, 1, none⟩) lh_0).trans h1_0
    have h2_1 := (hl.cell (p := ⟨cx + 2, 2, none⟩) lh_0).trans h2_0
    have h3_1 := (hl.cell (p := ⟨cx + 2, 3, none⟩) lh_0).trans h3_0
    have h4_1 := (hl.cell (p := ⟨cx + 2, 4, none⟩) lh_0).trans h4_0
    have h5_1 := (hl.cell (p := ⟨cx + 2, 5, none⟩) lh_0).trans h5_0
    have h6_1 := (hl.cell (p := ⟨cx + 2, 6, none⟩) lh_0).trans h6_0
    have h7_1 := (hl.cell (p := ⟨cx + 2, 7, none⟩) lh_0).trans h7_0
    have lh_1 := Nat.lt_of_lt_of_le lh_0 hl.size
    clear x0_0 x1_0 x2_0 x3_0 x4_0 y0_0 y1_0 y2_0 y3_0 y4_0 h0_0 h1_0 h2_0 h3_0 h4_0 h5_0 h6_0 h7_0 lx_0 ly_0 lh_0
    clear hl
    go_wp2_with fail
    refine Calls.mono (HCN.out W1 HBW1.out) ?_
    rintro e' W2 ⟨q0, q1, q2, q3, qd, ql, qc, rfl, hnv, hl⟩
    have HBW2 := Lib.hid (HBW1.out.trans (hl.mono HBW1.out.size))
    have HDW2 : Hid (Below W2.heap.size W2 W2) := Lib.hid (Below.refl _ _)
    have HNV := Lib.hid hnv
    clear hnv
    have x0_2 := (hl.cell (p := ⟨cx, 0, none⟩) lx_1).trans x0_1
    have x1_2 := (hl.cell (p := ⟨cx, 1, none⟩) lx_1).trans x1_1
    have x2_2 := (hl.cell (p := ⟨cx, 2, none⟩) lx_1).trans x2_1
    have x3_2 := (hl.cell (p := ⟨cx, 3, none⟩) lx_1).trans x3_1
    have x4_2 := (hl.cell (p := ⟨cx, 4, none⟩) lx_1).trans x4_1
    have lx_2 := Nat.lt_of_lt_of_le lx_1 hl.size
    have y0_2 := (hl.cell (p := ⟨cx + 1, 0, none⟩) ly_1).trans y0_1
    have y1_2 := (hl.cell (p := ⟨cx + 1, 1, none⟩) ly_1).trans y1_1
    have y2_2 := (hl.cell (p := ⟨cx + 1, 2, none⟩) ly_1).trans y2_1
    have y3_2 := (hl.cell (p := ⟨cx + 1, 3, none⟩) ly_1).trans y3_1
    have y4_2 := (hl.cell (p := ⟨cx + 1, 4, none⟩) ly_1).trans y4_1
    have ly_2 := Nat.lt_of_lt_of_le ly_1 hl.size
    have h0_2 := (hl.cell (p := ⟨cx + 2, 0, none⟩) lh_1).trans h0_1
    have h1_2 := (hl.cell (p := ⟨cx + 2, 1, none⟩) lh_1).trans h1_1
    have h2_2 := (hl.cell (p := ⟨cx + 2, 2, none⟩) lh_1).trans h2_1
    have h3_2 := (hl.cell (p := ⟨cx + 2, 3, none⟩) lh_1).trans h3_1
    have h4_2 := (hl.cell (p := ⟨cx + 2, 4, none⟩) lh_1).trans h4_1
    have h5_2 := (hl.cell (p := ⟨cx + 2, 5, none⟩) lh_1).trans h5_1
    have h6_2 := (hl.cell (p := ⟨cx + 2, 6, none⟩) lh_1).trans h6_1
    have h7_2 := (hl.cell (p := ⟨cx + 2, 7, none⟩) lh_1).trans h7_1
    have lh_2 := Nat.lt_of_lt_of_le lh_1 hl.size
    clear x0_1 x1_1 x2_1 x3_1 x4_1 y0_1 y1_1 y2_1 y3_1 y4_1 h0_1 h1_1 h2_1 h3_1 h4_1 h5_1 h6_1 h7_1 lx_1 ly_1 lh_1
    clear hl
    obtain ⟨Wn, hWn⟩ : ∃ W, W = W2.alloc (.cells #[.int .i64 q0, .string q1, .string q2, .int .i64 q3, .slice qd ql qc] 24) := ⟨_, rfl⟩
    have hl : Below W2.heap.size W2 Wn := by rw [hWn]; exact (Below.refl _ _).alloc (Nat.le_refl _) _
    obtain ⟨cn, hcn⟩ : ∃ c, c = W2.heap.size := ⟨_, rfl⟩
    have x0_3 := (hl.cell (p := ⟨cx, 0, none⟩) lx_2).trans x0_2
    have x1_3 := (hl.cell (p := ⟨cx, 1, none⟩) lx_2).trans x1_2
    have x2_3 := (hl.cell (p := ⟨cx, 2, none⟩) lx_2).trans x2_2
    have x3_3 := (hl.cell (p := ⟨cx, 3, none⟩) lx_2).trans x3_2
    have x4_3 := (hl.cell (p := ⟨cx, 4, none⟩) lx_2).trans x4_2
    have lx_3 := Nat.lt_of_lt_of_le lx_2 hl.size
    have y0_3 := (hl.cell (p := ⟨cx + 1, 0, none⟩) ly_2).trans y0_2
    have y1_3 := (hl.cell (p := ⟨cx + 1, 1, none⟩) ly_2).trans y1_2
    have y2_3 := (hl.cell (p := ⟨cx + 1, 2, none⟩) ly_2).trans y2_2
    have y3_3 := (hl.cell (p := ⟨cx + 1, 3, none⟩) ly_2).trans y3_2
    have y4_3 := (hl.cell (p := ⟨cx + 1, 4, none⟩) ly_2).trans y4_2
    have ly_3 := Nat.lt_of_lt_of_le ly_2 hl.size
    have h0_3 := (hl.cell (p := ⟨cx + 2, 0, none⟩) lh_2).trans h0_2
    have h1_3 := (hl.cell (p := ⟨cx + 2, 1, none⟩) lh_2).trans h1_2
    have h2_3 := (hl.cell (p := ⟨cx + 2, 2, none⟩) lh_2).trans h2_2
    have h3_3 := (hl.cell (p := ⟨cx + 2, 3, none⟩) lh_2).trans h3_2
    have h4_3 := (hl.cell (p := ⟨cx + 2, 4, none⟩) lh_2).trans h4_2
    have h5_3 := (hl.cell (p := ⟨cx + 2, 5, none⟩) lh_2).trans h5_2
    have h6_3 := (hl.cell (p := ⟨cx + 2, 6, none⟩) lh_2).trans h6_2
    have h7_3 := (hl.cell (p := ⟨cx + 2, 7, none⟩) lh_2).trans h7_2
    have lh_3 := Nat.lt_of_lt_of_le lh_2 hl.size
    clear x0_2 x1_2 x2_2 x3_2 x4_2 y0_2 y1_2 y2_2 y3_2 y4_2 h0_2 h1_2 h2_2 h3_2 h4_2 h5_2 h6_2 h7_2 lx_2 ly_2 lh_2
    have n0_3 : Wn.cell? ⟨cn, 0, none⟩ = some (.int .i64 q0) := by rw [hWn]; exact (cell_top _ _ _ _ _ hcn).trans rfl
    have n1_3 : Wn.cell? ⟨cn, 1, none⟩ = some (.string q1) := by rw [hWn]; exact (cell_top _ _ _ _ _ hcn).trans rfl
    have n2_3 : Wn.cell? ⟨cn, 2, none⟩ = some (.string q2) := by rw [hWn]; exact (cell_top _ _ _ _ _ hcn).trans rfl
    have n3_3 : Wn.cell? ⟨cn, 3, none⟩ = some (.int .i64 q3) := by rw [hWn]; exact (cell_top _ _ _ _ _ hcn).trans rfl
    have n4_3 : Wn.cell? ⟨cn, 4, none⟩ = some (.slice qd ql qc) := by rw [hWn]; exact (cell_top _ _ _ _ _ hcn).trans rfl
    have ln_3 : cn < Wn.heap.size := by rw [hWn, hcn]; simp
    have HBWn := Lib.hid (HBW2.out.trans (hl.mono HBW2.out.size))
    have HDWn := Lib.hid (HDW2.out.trans (hl.mono HDW2.out.size))
    clear hl
    go_upto_region 3 with fail
    rw [← hWn, ← hcn]
    clear hWn hcn
    go_wp2_with fail
    refine Calls.mono (HCA.out Wn HBWn.out) ?_
    rintro e' W3 ⟨rfl, hl⟩
    have HBW3 := Lib.hid (HBWn.out.trans (hl.mono HBWn.out.size))
    have HDW3 := Lib.hid (HDWn.out.trans (hl.mono HDWn.out.size))
    have x0_4 := (hl.cell (p := ⟨cx, 0, none⟩) lx_3).trans x0_3
    have x1_4 := (hl.cell (p := ⟨cx, 1, none⟩) lx_3).trans x1_3
    have x2_4 := (hl.cell (p := ⟨cx, 2, none⟩) lx_3).trans x2_3
    have x3_4 := (hl.cell (p := ⟨cx, 3, none⟩) lx_3).trans x3_3
    have x4_4 := (hl.cell (p := ⟨cx, 4, none⟩) lx_3).trans x4_3
    have lx_4 := Nat.lt_of_lt_of_le lx_3 hl.size
    have y0_4 := (hl.cell (p := ⟨cx + 1, 0, none⟩) ly_3).trans y0_3
    have y1_4 := (hl.cell (p := ⟨cx + 1, 1, none⟩) ly_3).trans y1_3
    have y2_4 := (hl.cell (p := ⟨cx + 1, 2, none⟩) ly_3).trans y2_3
    have y3_4 := (hl.cell (p := ⟨cx + 1, 3, none⟩) ly_3).trans y3_3
    have y4_4 := (hl.cell (p := ⟨cx + 1, 4, none⟩) ly_3).trans y4_3
    have ly_4 := Nat.lt_of_lt_of_le ly_3 hl.size
    have h0_4 := (hl.cell (p := ⟨cx + 2, 0, none⟩) lh_3).trans h0_3
    have h1_4 := (hl.cell (p := ⟨cx + 2, 1, none⟩) lh_3).trans h1_3
    have h2_4 := (hl.cell (p := ⟨cx + 2, 2, none⟩) lh_3).trans h2_3
    have h3_4 := (hl.cell (p := ⟨cx + 2, 3, none⟩) lh_3).trans h3_3
    have h4_4 := (hl.cell (p := ⟨cx + 2, 4, none⟩) lh_3).trans h4_3
    have h5_4 := (hl.cell (p := ⟨cx + 2, 5, none⟩) lh_3).trans h5_3
    have h6_4 := (hl.cell (p := ⟨cx + 2, 6, none⟩) lh_3).trans h6_3
    have h7_4 := (hl.cell (p := ⟨cx + 2, 7, none⟩) lh_3).trans h7_3
    have lh_4 := Nat.lt_of_lt_of_le lh_3 hl.size
    have n0_4 := (hl.cell (p := ⟨cn, 0, none⟩) ln_3).trans n0_3
    have n1_4 := (hl.cell (p := ⟨cn, 1, none⟩) ln_3).trans n1_3
    have n2_4 := (hl.cell (p := ⟨cn, 2, none⟩) ln_3).trans n2_3
    have n3_4 := (hl.cell (p := ⟨cn, 3, none⟩) ln_3).trans n3_3
    have n4_4 := (hl.cell (p := ⟨cn, 4, none⟩) ln_3).trans n4_3
    have ln_4 := Nat.lt_of_lt_of_le ln_3 hl.size
    clear x0_3 x1_3 x2_3 x3_3 x4_3 y0_3 y1_3 y2_3 y3_3 y4_3 h0_3 h1_3 h2_3 h3_3 h4_3 h5_3 h6_3 h7_3 n0_3 n1_3 n2_3 n3_3 n4_3 lx_3 ly_3 lh_3 ln_3
    clear hl
    obtain ⟨Wz, hWz⟩ : ∃ W, W = W3.alloc (.cells #[.int .i64 0, .string ⟨#[]⟩, .string ⟨#[]⟩, .int .i64 0, .slice none 0 0] 24) := ⟨_, rfl⟩
    have hl : Below W3.heap.size W3 Wz := by rw [hWz]; exact (Below.refl _ _).alloc (Nat.le_refl _) _
    obtain ⟨cz, hcz⟩ : ∃ c, c = W3.heap.size := ⟨_, rfl⟩
    have x0_5 := (hl.cell (p := ⟨cx, 0, none⟩) lx_4).trans x0_4
    have x1_5 := (hl.cell (p := ⟨cx, 1, none⟩) lx_4).trans x1_4
    have x2_5 := (hl.cell (p := ⟨cx, 2, none⟩) lx_4).trans x2_4
    have x3_5 := (hl.cell (p := ⟨cx, 3, none⟩) lx_4).trans x3_4
    have x4_5 := (hl.cell (p := ⟨cx, 4, none⟩) lx_4).trans x4_4
    have lx_5 := Nat.lt_of_lt_of_le lx_4 hl.size
    have y0_5 := (hl.cell (p := ⟨cx + 1, 0, none⟩) ly_4).trans y0_4
    have y1_5 := (hl.cell (p := ⟨cx + 1, 1, none⟩) ly_4).trans y1_4
    have y2_5 := (hl.cell (p := ⟨cx + 1, 2, none⟩) ly_4).trans y2_4
    have y3_5 := (hl.cell (p := ⟨cx + 1, 3, none⟩) ly_4).trans y3_4
    have y4_5 := (hl.cell (p := ⟨cx + 1, 4, none⟩) ly_4).trans y4_4
    have ly_5 := Nat.lt_of_lt_of_le ly_4 hl.size
    have h0_5 := (hl.cell (p := ⟨cx + 2, 0, none⟩) lh_4).trans h0_4
    have h1_5 := (hl.cell (p := ⟨cx + 2, 1, none⟩) lh_4).trans h1_4
    have h2_5 := (hl.cell (p := ⟨cx + 2, 2, none⟩) lh_4).trans h2_4
    have h3_5 := (hl.cell (p := ⟨cx + 2, 3, none⟩) lh_4).trans h3_4
    have h4_5 := (hl.cell (p := ⟨cx + 2, 4, none⟩) lh_4).trans h4_4
    have h5_5 := (hl.cell (p := ⟨cx + 2, 5, none⟩) lh_4).trans h5_4
    have h6_5 := (hl.cell (p := ⟨cx + 2, 6, none⟩) lh_4).trans h6_4
    have h7_5 := (hl.cell (p := ⟨cx + 2, 7, none⟩) lh_4).trans h7_4
    have lh_5 := Nat.lt_of_lt_of_le lh_4 hl.size
    have n0_5 := (hl.cell (p := ⟨cn, 0, none⟩) ln_4).trans n0_4
    have n1_5 := (hl.cell (p := ⟨cn, 1, none⟩) ln_4).trans n1_4
    have n2_5 := (hl.cell (p := ⟨cn, 2, none⟩) ln_4).trans n2_4
    have n3_5 := (hl.cell (p := ⟨cn, 3, none⟩) ln_4).trans n3_4
    have n4_5 := (hl.cell (p := ⟨cn, 4, none⟩) ln_4).trans n4_4
    have ln_5 := Nat.lt_of_lt_of_le ln_4 hl.size
    clear x0_4 x1_4 x2_4 x3_4 x4_4 y0_4 y1_4 y2_4 y3_4 y4_4 h0_4 h1_4 h2_4 h3_4 h4_4 h5_4 h6_4 h7_4 n0_4 n1_4 n2_4 n3_4 n4_4 lx_4 ly_4 lh_4 ln_4
    have z0_5 : Wz.cell? ⟨cz, 0, none⟩ = some (.int .i64 0) := by rw [hWz]; exact (cell_top _ _ _ _ _ hcz).trans rfl
    have z1_5 : Wz.cell? ⟨cz, 1, none⟩ = some (.string ⟨#[]⟩) := by rw [hWz]; exact (cell_top _ _ _ _ _ hcz).trans rfl
    have z2_5 : Wz.cell? ⟨cz, 2, none⟩ = some (.string ⟨#[]⟩) := by rw [hWz]; exact (cell_top _ _ _ _ _ hcz).trans rfl
    have z3_5 : Wz.cell? ⟨cz, 3, none⟩ = some (.int .i64 0) := by rw [hWz]; exact (cell_top _ _ _ _ _ hcz).trans rfl
    have z4_5 : Wz.cell? ⟨cz, 4, none⟩ = some (.slice none 0 0) := by rw [hWz]; exact (cell_top _ _ _ _ _ hcz).trans rfl
    have lz_5 : cz < Wz.heap.size := by rw [hWz, hcz]; simp
    have HBWz := Lib.hid (HBW3.out.trans (hl.mono HBW3.out.size))
    have HDWz := Lib.hid (HDW3.out.trans (hl.mono HDW3.out.size))
    clear hl
    go_upto_region 5 with fail
    rw [← hWz, ← hcz]
    clear hWz hcz
    go_wp2_with fail
    refine Calls.mono (HFX.out Wz HBWz.out) ?_
    rintro e' W4 ⟨rfl, hl⟩
    have HBW4 := Lib.hid (HBWz.out.trans (hl.mono HBWz.out.size))
    have HDW4 := Lib.hid (HDWz.out.trans (hl.mono HDWz.out.size))
    have x0_6 := (hl.cell (p := ⟨cx, 0, none⟩) lx_5).trans x0_5
    have x1_6 := (hl.cell (p := ⟨cx, 1, none⟩) lx_5).trans x1_5
    have x2_6 := (hl.cell (p := ⟨cx, 2, none⟩) lx_5).trans x2_5
    have x3_6 := (hl.cell (p := ⟨cx, 3, none⟩) lx_5).trans x3_5
    have x4_6 := (hl.cell (p := ⟨cx, 4, none⟩) lx_5).trans x4_5
    have lx_6 := Nat.lt_of_lt_of_le lx_5 hl.size
    have y0_6 := (hl.cell (p := ⟨cx + 1, 0, none⟩) ly_5).trans y0_5
    have y1_6 := (hl.cell (p := ⟨cx + 1, 1, none⟩) ly_5).trans y1_5
    have y2_6 := (hl.cell (p := ⟨cx + 1, 2, none⟩) ly_5).trans y2_5
    have y3_6 := (hl.cell (p := ⟨cx + 1, 3, none⟩) ly_5).trans y3_5
    have y4_6 := (hl.cell (p := ⟨cx + 1, 4, none⟩) ly_5).trans y4_5
    have ly_6 := Nat.lt_of_lt_of_le ly_5 hl.size
    have h0_6 := (hl.cell (p := ⟨cx + 2, 0, none⟩) lh_5).trans h0_5
    have h1_6 := (hl.cell (p := ⟨cx + 2, 1, none⟩) lh_5).trans h1_5
    have h2_6 := (hl.cell (p := ⟨cx + 2, 2, none⟩) lh_5).trans h2_5
    have h3_6 := (hl.cell (p := ⟨cx + 2, 3, none⟩) lh_5).trans h3_5
    have h4_6 := (hl.cell (p := ⟨cx + 2, 4, none⟩) lh_5).trans h4_5
    have h5_6 := (hl.cell (p := ⟨cx + 2, 5, none⟩) lh_5).trans h5_5
    have h6_6 := (hl.cell (p := ⟨cx + 2, 6, none⟩) lh_5).trans h6_5
    have h7_6 := (hl.cell (p := ⟨cx + 2, 7, none⟩) lh_5).trans h7_5
    have lh_6 := Nat.lt_of_lt_of_le lh_5 hl.size
    have n0_6 := (hl.cell (p := ⟨cn, 0, none⟩) ln_5).trans n0_5
    have n1_6 := (hl.cell (p := ⟨cn, 1, none⟩) ln_5).trans n1_5
    have n2_6 := (hl.cell (p := ⟨cn, 2, none⟩) ln_5).trans n2_5
    have n3_6 := (hl.cell (p := ⟨cn, 3, none⟩) ln_5).trans n3_5
    have n4_6 := (hl.cell (p := ⟨cn, 4, none⟩) ln_5).trans n4_5
    have ln_6 := Nat.lt_of_lt_of_le ln_5 hl.size
    have z0_6 := (hl.cell (p := ⟨cz, 0, none⟩) lz_5).trans z0_5
    have z1_6 := (hl.cell (p := ⟨cz, 1, none⟩) lz_5).trans z1_5
    have z2_6 := (hl.cell (p := ⟨cz, 2, none⟩) lz_5).trans z2_5
    have z3_6 := (hl.cell (p := ⟨cz, 3, none⟩) lz_5).trans z3_5
    have z4_6 := (hl.cell (p := ⟨cz, 4, none⟩) lz_5).trans z4_5
    have lz_6 := Nat.lt_of_lt_of_le lz_5 hl.size
    clear x0_5 x1_5 x2_5 x3_5 x4_5 y0_5 y1_5 y2_5 y3_5 y4_5 h0_5 h1_5 h2_5 h3_5 h4_5 h5_5 h6_5 h7_5 n0_5 n1_5 n2_5 n3_5 n4_5 z0_5 z1_5 z2_5 z3_5 z4_5 lx_5 ly_5 lh_5 ln_5 lz_5
    clear hl
    go_wp2_with fail
    refine Calls.mono (HCR.out W4 HBW4.out) ?_
    rintro e' W5 ⟨rfl, hl⟩
    have HBW5 := Lib.hid (HBW4.out.trans (hl.mono HBW4.out.size))
    have HDW5 := Lib.hid (HDW4.out.trans (hl.mono HDW4.out.size))
    have x0_7 := (hl.cell (p := ⟨cx, 0, none⟩) lx_6).trans x0_6
    have x1_7 := (hl.cell (p := ⟨cx, 1, none⟩) lx_6).trans x1_6
    have x2_7 := (hl.cell (p := ⟨cx, 2, none⟩) lx_6).trans x2_6
    have x3_7 := (hl.cell (p := ⟨cx, 3, none⟩) lx_6).trans x3_6
    have x4_7 := (hl.cell (p := ⟨cx, 4, none⟩) lx_6).trans x4_6
    have lx_7 := Nat.lt_of_lt_of_le lx_6 hl.size
    have y0_7 := (hl.cell (p := ⟨cx + 1, 0, none⟩) ly_6).trans y0_6
    have y1_7 := (hl.cell (p := ⟨cx + 1, 1, none⟩) ly_6).trans y1_6
    have y2_7 := (hl.cell (p := ⟨cx + 1, 2, none⟩) ly_6).trans y2_6
    have y3_7 := (hl.cell (p := ⟨cx + 1, 3, none⟩) ly_6).trans y3_6
    have y4_7 := (hl.cell (p := ⟨cx + 1, 4, none⟩) ly_6).trans y4_6
    have ly_7 := Nat.lt_of_lt_of_le ly_6 hl.size
    have h0_7 := (hl.cell (p := ⟨cx + 2, 0, none⟩) lh_6).trans h0_6
    have h1_7 := (hl.cell (p := ⟨cx + 2, 1, none⟩) lh_6).trans h1_6
    have h2_7 := (hl.cell (p := ⟨cx + 2, 2, none⟩) lh_6).trans h2_6
    have h3_7 := (hl.cell (p := ⟨cx + 2, 3, none⟩) lh_6).trans h3_6
    have h4_7 := (hl.cell (p := ⟨cx + 2, 4, none⟩) lh_6).trans h4_6
    have h5_7 := (hl.cell (p := ⟨cx + 2, 5, none⟩) lh_6).trans h5_6
    have h6_7 := (hl.cell (p := ⟨cx + 2, 6, none⟩) lh_6).trans h6_6
    have h7_7 := (hl.cell (p := ⟨cx + 2, 7, none⟩) lh_6).trans h7_6
    have lh_7 := Nat.lt_of_lt_of_le lh_6 hl.size
    have n0_7 := (hl.cell (p := ⟨cn, 0, none⟩) ln_6).trans n0_6
    have n1_7 := (hl.cell (p := ⟨cn, 1, none⟩) ln_6).trans n1_6
    have n2_7 := (hl.cell (p := ⟨cn, 2, none⟩) ln_6).trans n2_6
    have n3_7 := (hl.cell (p := ⟨cn, 3, none⟩) ln_6).trans n3_6
    have n4_7 := (hl.cell (p := ⟨cn, 4, none⟩) ln_6).trans n4_6
    have ln_7 := Nat.lt_of_lt_of_le ln_6 hl.size
    have z0_7 := (hl.cell (p := ⟨cz, 0, none⟩) lz_6).trans z0_6
    have z1_7 := (hl.cell (p := ⟨cz, 1, none⟩) lz_6).trans z1_6
    have z2_7 := (hl.cell (p := ⟨cz, 2, none⟩) lz_6).trans z2_6
    have z3_7 := (hl.cell (p := ⟨cz, 3, none⟩) lz_6).trans z3_6
    have z4_7 := (hl.cell (p := ⟨cz, 4, none⟩) lz_6).trans z4_6
    have lz_7 := Nat.lt_of_lt_of_le lz_6 hl.size
    clear x0_6 x1_6 x2_6 x3_6 x4_6 y0_6 y1_6 y2_6 y3_6 y4_6 h0_6 h1_6 h2_6 h3_6 h4_6 h5_6 h6_6 h7_6 n0_6 n1_6 n2_6 n3_6 n4_6 z0_6 z1_6 z2_6 z3_6 z4_6 lx_6 ly_6 lh_6 ln_6 lz_6
    clear hl
    clear h0_7 h1_7 h2_7 h3_7 h4_7 h5_7 h6_7 h7_7 lh_7
    go_wp2_with fail
    refine Calls.mono (HPU.out W5 HBW5.out) ?_
    rintro e' W6 ⟨r0, r1, r2, r3, rd, rl, rc, rfl, hrv, hl⟩
    have HBW6 := Lib.hid (HBW5.out.trans (hl.mono HBW5.out.size))
    have HDW6 := Lib.hid (HDW5.out.trans (hl.mono HDW5.out.size))
    have HRV := Lib.hid (AskVP.toV _ _ hrv)
    clear hrv
    have x0_8 := (hl.cell (p := ⟨cx, 0, none⟩) lx_7).trans x0_7
    have x1_8 := (hl.cell (p := ⟨cx, 1, none⟩) lx_7).trans x1_7
    have x2_8 := (hl.cell (p := ⟨cx, 2, none⟩) lx_7).trans x2_7
    have x3_8 := (hl.cell (p := ⟨cx, 3, none⟩) lx_7).trans x3_7
    have x4_8 := (hl.cell (p := ⟨cx, 4, none⟩) lx_7).trans x4_7
    have lx_8 := Nat.lt_of_lt_of_le lx_7 hl.size
    have y0_8 := (hl.cell (p := ⟨cx + 1, 0, none⟩) ly_7).trans y0_7
    have y1_8 := (hl.cell (p := ⟨cx + 1, 1, none⟩) ly_7).trans y1_7
    have y2_8 := (hl.cell (p := ⟨cx + 1, 2, none⟩) ly_7).trans y2_7
    have y3_8 := (hl.cell (p := ⟨cx + 1, 3, none⟩) ly_7).trans y3_7
    have y4_8 := (hl.cell (p := ⟨cx + 1, 4, none⟩) ly_7).trans y4_7
    have ly_8 := Nat.lt_of_lt_of_le ly_7 hl.size
    have n0_8 := (hl.cell (p := ⟨cn, 0, none⟩) ln_7).trans n0_7
    have n1_8 := (hl.cell (p := ⟨cn, 1, none⟩) ln_7).trans n1_7
    have n2_8 := (hl.cell (p := ⟨cn, 2, none⟩) ln_7).trans n2_7
    have n3_8 := (hl.cell (p := ⟨cn, 3, none⟩) ln_7).trans n3_7
    have n4_8 := (hl.cell (p := ⟨cn, 4, none⟩) ln_7).trans n4_7
    have ln_8 := Nat.lt_of_lt_of_le ln_7 hl.size
    have z0_8 := (hl.cell (p := ⟨cz, 0, none⟩) lz_7).trans z0_7
    have z1_8 := (hl.cell (p := ⟨cz, 1, none⟩) lz_7).trans z1_7
    have z2_8 := (hl.cell (p := ⟨cz, 2, none⟩) lz_7).trans z2_7
    have z3_8 := (hl.cell (p := ⟨cz, 3, none⟩) lz_7).trans z3_7
    have z4_8 := (hl.cell (p := ⟨cz, 4, none⟩) lz_7).trans z4_7
    have lz_8 := Nat.lt_of_lt_of_le lz_7 hl.size
    clear x0_7 x1_7 x2_7 x3_7 x4_7 y0_7 y1_7 y2_7 y3_7 y4_7 n0_7 n1_7 n2_7 n3_7 n4_7 z0_7 z1_7 z2_7 z3_7 z4_7 lx_7 ly_7 ln_7 lz_7
    clear hl
    obtain ⟨Wp, hWp⟩ : ∃ W, W = W6.alloc (.cells #[.int .i64 r0, .string r1, .string r2, .int .i64 r3, .slice rd rl rc] 24) := ⟨_, rfl⟩
    have hl : Below W6.heap.size W6 Wp := by rw [hWp]; exact (Below.refl _ _).alloc (Nat.le_refl _) _
    obtain ⟨cp, hcp⟩ : ∃ c, c = W6.heap.size := ⟨_, rfl⟩
    have x0_9 := (hl.cell (p := ⟨cx, 0, none⟩) lx_8).trans x0_8
    have x1_9 := (hl.cell (p := ⟨cx, 1, none⟩) lx_8).trans x1_8
    have x2_9 := (hl.cell (p := ⟨cx, 2, none⟩) lx_8).trans x2_8
    have x3_9 := (hl.cell (p := ⟨cx, 3, none⟩) lx_8).trans x3_8
    have x4_9 := (hl.cell (p := ⟨cx, 4, none⟩) lx_8).trans x4_8
    have lx_9 := Nat.lt_of_lt_of_le lx_8 hl.size
    have y0_9 := (hl.cell (p := ⟨cx + 1, 0, none⟩) ly_8).trans y0_8
    have y1_9 := (hl.cell (p := ⟨cx + 1, 1, none⟩) ly_8).trans y1_8
    have y2_9 := (hl.cell (p := ⟨cx + 1, 2, none⟩) ly_8).trans y2_8
    have y3_9 := (hl.cell (p := ⟨cx + 1, 3, none⟩) ly_8).trans y3_8
    have y4_9 := (hl.cell (p := ⟨cx + 1, 4, none⟩) ly_8).trans y4_8
    have ly_9 := Nat.lt_of_lt_of_le ly_8 hl.size
    have n0_9 := (hl.cell (p := ⟨cn, 0, none⟩) ln_8).trans n0_8
    have n1_9 := (hl.cell (p := ⟨cn, 1, none⟩) ln_8).trans n1_8
    have n2_9 := (hl.cell (p := ⟨cn, 2, none⟩) ln_8).trans n2_8
    have n3_9 := (hl.cell (p := ⟨cn, 3, none⟩) ln_8).trans n3_8
    have n4_9 := (hl.cell (p := ⟨cn, 4, none⟩) ln_8).trans n4_8
    have ln_9 := Nat.lt_of_lt_of_le ln_8 hl.size
    have z0_9 := (hl.cell (p := ⟨cz, 0, none⟩) lz_8).trans z0_8
    have z1_9 := (hl.cell (p := ⟨cz, 1, none⟩) lz_8).trans z1_8
    have z2_9 := (hl.cell (p := ⟨cz, 2, none⟩) lz_8).trans z2_8
    have z3_9 := (hl.cell (p := ⟨cz, 3, none⟩) lz_8).trans z3_8
    have z4_9 := (hl.cell (p := ⟨cz, 4, none⟩) lz_8).trans z4_8
    have lz_9 := Nat.lt_of_lt_of_le lz_8 hl.size
    clear x0_8 x1_8 x2_8 x3_8 x4_8 y0_8 y1_8 y2_8 y3_8 y4_8 n0_8 n1_8 n2_8 n3_8 n4_8 z0_8 z1_8 z2_8 z3_8 z4_8 lx_8 ly_8 ln_8 lz_8
    have r0_9 : Wp.cell? ⟨cp, 0, none⟩ = some (.int .i64 r0) := by rw [hWp]; exact (cell_top _ _ _ _ _ hcp).trans rfl
    have r1_9 : Wp.cell? ⟨cp, 1, none⟩ = some (.string r1) := by rw [hWp]; exact (cell_top _ _ _ _ _ hcp).trans rfl
    have r2_9 : Wp.cell? ⟨cp, 2, none⟩ = some (.string r2) := by rw [hWp]; exact (cell_top _ _ _ _ _ hcp).trans rfl
    have r3_9 : Wp.cell? ⟨cp, 3, none⟩ = some (.int .i64 r3) := by rw [hWp]; exact (cell_top _ _ _ _ _ hcp).trans rfl
    have r4_9 : Wp.cell? ⟨cp, 4, none⟩ = some (.slice rd rl rc) := by rw [hWp]; exact (cell_top _ _ _ _ _ hcp).trans rfl
    have lr_9 : cp < Wp.heap.size := by rw [hWp, hcp]; simp
    have HBWp := Lib.hid (HBW6.out.trans (hl.mono HBW6.out.size))
    have HDWp := Lib.hid (HDW6.out.trans (hl.mono HDW6.out.size))
    have HRP := Lib.hid (AskV.below hl _ _ HRV.out)
    clear hl
    go_upto_region 11 with fail
    rw [← hWp, ← hcp]
    clear hWp hcp
    go_wp2_with fail
    refine Calls.mono (HSZ.out Wp _ HRP.out) ?_
    rintro e' W7 ⟨rfl, hl⟩
    have HBW7 := Lib.hid (HBWp.out.trans (hl.mono HBWp.out.size))
    have HDW7 := Lib.hid (HDWp.out.trans (hl.mono HDWp.out.size))
    have HR7 := Lib.hid (AskV.below hl _ _ HRP.out)
    have x0_10 := (hl.cell (p := ⟨cx, 0, none⟩) lx_9).trans x0_9
    have x1_10 := (hl.cell (p := ⟨cx, 1, none⟩) lx_9).trans x1_9
    have x2_10 := (hl.cell (p := ⟨cx, 2, none⟩) lx_9).trans x2_9
    have x3_10 := (hl.cell (p := ⟨cx, 3, none⟩) lx_9).trans x3_9
    have x4_10 := (hl.cell (p := ⟨cx, 4, none⟩) lx_9).trans x4_9
    have lx_10 := Nat.lt_of_lt_of_le lx_9 hl.size
    have y0_10 := (hl.cell (p := ⟨cx + 1, 0, none⟩) ly_9).trans y0_9
    have y1_10 := (hl.cell (p := ⟨cx + 1, 1, none⟩) ly_9).trans y1_9
    have y2_10 := (hl.cell (p := ⟨cx + 1, 2, none⟩) ly_9).trans y2_9
    have y3_10 := (hl.cell (p := ⟨cx + 1, 3, none⟩) ly_9).trans y3_9
    have y4_10 := (hl.cell (p := ⟨cx + 1, 4, none⟩) ly_9).trans y4_9
    have ly_10 := Nat.lt_of_lt_of_le ly_9 hl.size
    have n0_10 := (hl.cell (p := ⟨cn, 0, none⟩) ln_9).trans n0_9
    have n1_10 := (hl.cell (p := ⟨cn, 1, none⟩) ln_9).trans n1_9
    have n2_10 := (hl.cell (p := ⟨cn, 2, none⟩) ln_9).trans n2_9
    have n3_10 := (hl.cell (p := ⟨cn, 3, none⟩) ln_9).trans n3_9
    have n4_10 := (hl.cell (p := ⟨cn, 4, none⟩) ln_9).trans n4_9
    have ln_10 := Nat.lt_of_lt_of_le ln_9 hl.size
    have z0_10 := (hl.cell (p := ⟨cz, 0, none⟩) lz_9).trans z0_9
    have z1_10 := (hl.cell (p := ⟨cz, 1, none⟩) lz_9).trans z1_9
    have z2_10 := (hl.cell (p := ⟨cz, 2, none⟩) lz_9).trans z2_9
    have z3_10 := (hl.cell (p := ⟨cz, 3, none⟩) lz_9).trans z3_9
    have z4_10 := (hl.cell (p := ⟨cz, 4, none⟩) lz_9).trans z4_9
    have lz_10 := Nat.lt_of_lt_of_le lz_9 hl.size
    have r0_10 := (hl.cell (p := ⟨cp, 0, none⟩) lr_9).trans r0_9
    have r1_10 := (hl.cell (p := ⟨cp, 1, none⟩) lr_9).trans r1_9
    have r2_10 := (hl.cell (p := ⟨cp, 2, none⟩) lr_9).trans r2_9
    have r3_10 := (hl.cell (p := ⟨cp, 3, none⟩) lr_9).trans r3_9
    have r4_10 := (hl.cell (p := ⟨cp, 4, none⟩) lr_9).trans r4_9
    have lr_10 := Nat.lt_of_lt_of_le lr_9 hl.size
    clear x0_9 x1_9 x2_9 x3_9 x4_9 y0_9 y1_9 y2_9 y3_9 y4_9 n0_9 n1_9 n2_9 n3_9 n4_9 z0_9 z1_9 z2_9 z3_9 z4_9 r0_9 r1_9 r2_9 r3_9 r4_9 lx_9 ly_9 ln_9 lz_9 lr_9
    clear hl
    have HN7 := Lib.hid (AskV.below HDW7.out _ _ HNV.out)
    by_cases hz : 60 < z
    · have hne : ne = 2 := by
        rw [← HNE.out]
        unfold Ask.normE
        rw [HF.out, if_neg (by simp), HZ.out, if_pos hz]
      have hnx : nx = Ask.none := by
        rw [← HNX.out]
        unfold Ask.normV
        rw [if_neg (by rw [HNE.out, hne]; decide)]
      subst hne
      subst hnx
      have hz2 : (60 : Int) < (z : Int) := by omega
      clear hz
      go_wp2_with fail
      refine Calls.mono (same_any Ask.none _ _ W7 HN7.out (none_val W7)) ?_
      rintro e' W8 ⟨rfl, hl⟩
      have HBW8 := Lib.hid (HBW7.out.trans (hl.mono HBW7.out.size))
      have x0_11 := (hl.cell (p := ⟨cx, 0, none⟩) lx_10).trans x0_10
      have x1_11 := (hl.cell (p := ⟨cx, 1, none⟩) lx_10).trans x1_10
      have x2_11 := (hl.cell (p := ⟨cx, 2, none⟩) lx_10).trans x2_10
      have x3_11 := (hl.cell (p := ⟨cx, 3, none⟩) lx_10).trans x3_10
      have x4_11 := (hl.cell (p := ⟨cx, 4, none⟩) lx_10).trans x4_10
      have lx_11 := Nat.lt_of_lt_of_le lx_10 hl.size
      have y0_11 := (hl.cell (p := ⟨cx + 1, 0, none⟩) ly_10).trans y0_10
      have y1_11 := (hl.cell (p := ⟨cx + 1, 1, none⟩) ly_10).trans y1_10
      have y2_11 := (hl.cell (p := ⟨cx + 1, 2, none⟩) ly_10).trans y2_10
      have y3_11 := (hl.cell (p := ⟨cx + 1, 3, none⟩) ly_10).trans y3_10
      have y4_11 := (hl.cell (p := ⟨cx + 1, 4, none⟩) ly_10).trans y4_10
      have ly_11 := Nat.lt_of_lt_of_le ly_10 hl.size
      have n0_11 := (hl.cell (p := ⟨cn, 0, none⟩) ln_10).trans n0_10
      have n1_11 := (hl.cell (p := ⟨cn, 1, none⟩) ln_10).trans n1_10
      have n2_11 := (hl.cell (p := ⟨cn, 2, none⟩) ln_10).trans n2_10
      have n3_11 := (hl.cell (p := ⟨cn, 3, none⟩) ln_10).trans n3_10
      have n4_11 := (hl.cell (p := ⟨cn, 4, none⟩) ln_10).trans n4_10
      have ln_11 := Nat.lt_of_lt_of_le ln_10 hl.size
      have z0_11 := (hl.cell (p := ⟨cz, 0, none⟩) lz_10).trans z0_10
      have z1_11 := (hl.cell (p := ⟨cz, 1, none⟩) lz_10).trans z1_10
      have z2_11 := (hl.cell (p := ⟨cz, 2, none⟩) lz_10).trans z2_10
      have z3_11 := (hl.cell (p := ⟨cz, 3, none⟩) lz_10).trans z3_10
      have z4_11 := (hl.cell (p := ⟨cz, 4, none⟩) lz_10).trans z4_10
      have lz_11 := Nat.lt_of_lt_of_le lz_10 hl.size
      have r0_11 := (hl.cell (p := ⟨cp, 0, none⟩) lr_10).trans r0_10
      have r1_11 := (hl.cell (p := ⟨cp, 1, none⟩) lr_10).trans r1_10
      have r2_11 := (hl.cell (p := ⟨cp, 2, none⟩) lr_10).trans r2_10
      have r3_11 := (hl.cell (p := ⟨cp, 3, none⟩) lr_10).trans r3_10
      have r4_11 := (hl.cell (p := ⟨cp, 4, none⟩) lr_10).trans r4_10
      have lr_11 := Nat.lt_of_lt_of_le lr_10 hl.size
      clear x0_10 x1_10 x2_10 x3_10 x4_10 y0_10 y1_10 y2_10 y3_10 y4_10 n0_10 n1_10 n2_10 n3_10 n4_10 z0_10 z1_10 z2_10 z3_10 z4_10 r0_10 r1_10 r2_10 r3_10 r4_10 lx_10 ly_10 ln_10 lz_10 lr_10
      clear hl
      clear n0_11 n1_11 n2_11 n3_11 n4_11 ln_11
      clear z0_11 z1_11 z2_11 z3_11 z4_11 lz_11
      clear r0_11 r1_11 r2_11 r3_11 r4_11 lr_11
      by_cases hfy : fy = 0
      · subst hfy
        obtain ⟨hey, hsy⟩ := fault_err HFYE.out
        have HEY := Lib.hid hey
        have HSY6 := Lib.hid hsy
        have HAT : Hid (∀ W, Below W0.heap.size W0 W → Calls Tryd.prog 12 #[.agg #[.int .i64 k, .string a1, .string a2, .int .i64 nu, .slice ad n cap], .agg #[.int .i64 k', .string a1', .string a2', .int .i64 nu', .slice ad' n' cap']] W (RefAQ W (allAt x y))) := Lib.hid (fun W hW => AllAtoms_any x y _ _ W HERR.out HEY.out HSX6.out HSY6.out (AskV.below hW _ _ HXV.out) (AskV.below hW _ _ HYV.out))
        unfold RefAQ at HAT
        have HAA : Hid (∀ W, Below W0.heap.size W0 W → Calls Tryd.prog 13 #[.agg #[.int .i64 k, .string a1, .string a2, .int .i64 nu, .slice ad n cap], .agg #[.int .i64 k', .string a1', .string a2', .int .i64 nu', .slice ad' n' cap']] W fun e w' => e = .returned (.bool (alikeR x y (allAt x y) [])) ∧ Below W.heap.size W w') := Lib.hid (fun W hW => AlikeAsks_any x y _ _ W HERR.out HEY.out HSX6.out HSY6.out (AskV.below hW _ _ HXV.out) (AskV.below hW _ _ HYV.out))
        clear hey hsy
        go_wp2_with fail
        refine Calls.mono (HFY.out W8 HBW8.out) ?_
        rintro e' W9 ⟨rfl, hl⟩
        have HBW9 := Lib.hid (HBW8.out.trans (hl.mono HBW8.out.size))
        have x0_12 := (hl.cell (p := ⟨cx, 0, none⟩) lx_11).trans x0_11
        have x1_12 := (hl.cell (p := ⟨cx, 1, none⟩) lx_11).trans x1_11
        have x2_12 := (hl.cell (p := ⟨cx, 2, none⟩) lx_11).trans x2_11
        have x3_12 := (hl.cell (p := ⟨cx, 3, none⟩) lx_11).trans x3_11
        have x4_12 := (hl.cell (p := ⟨cx, 4, none⟩) lx_11).trans x4_11
        have lx_12 := Nat.lt_of_lt_of_le lx_11 hl.size
        have y0_12 := (hl.cell (p := ⟨cx + 1, 0, none⟩) ly_11).trans y0_11
        have y1_12 := (hl.cell (p := ⟨cx + 1, 1, none⟩) ly_11).trans y1_11
        have y2_12 := (hl.cell (p := ⟨cx + 1, 2, none⟩) ly_11).trans y2_11
        have y3_12 := (hl.cell (p := ⟨cx + 1, 3, none⟩) ly_11).trans y3_11
        have y4_12 := (hl.cell (p := ⟨cx + 1, 4, none⟩) ly_11).trans y4_11
        have ly_12 := Nat.lt_of_lt_of_le ly_11 hl.size
        clear x0_11 x1_11 x2_11 x3_11 x4_11 y0_11 y1_11 y2_11 y3_11 y4_11 lx_11 ly_11
        clear hl
        go_wp2_with fail
        refine Calls.mono (HAT.out W9 HBW9.out) ?_
        rintro e' W10 ⟨ta, tm, tc, rfl, htm, _, _, _, hl⟩
        have HBW10 := Lib.hid (HBW9.out.trans (hl.mono HBW9.out.size))
        have HTM := Lib.hid htm
        clear htm
        have x0_13 := (hl.cell (p := ⟨cx, 0, none⟩) lx_12).trans x0_12
        have x1_13 := (hl.cell (p := ⟨cx, 1, none⟩) lx_12).trans x1_12
        have x2_13 := (hl.cell (p := ⟨cx, 2, none⟩) lx_12).trans x2_12
        have x3_13 := (hl.cell (p := ⟨cx, 3, none⟩) lx_12).trans x3_12
        have x4_13 := (hl.cell (p := ⟨cx, 4, none⟩) lx_12).trans x4_12
        have lx_13 := Nat.lt_of_lt_of_le lx_12 hl.size
        have y0_13 := (hl.cell (p := ⟨cx + 1, 0, none⟩) ly_12).trans y0_12
        have y1_13 := (hl.cell (p := ⟨cx + 1, 1, none⟩) ly_12).trans y1_12
        have y2_13 := (hl.cell (p := ⟨cx + 1, 2, none⟩) ly_12).trans y2_12
        have y3_13 := (hl.cell (p := ⟨cx + 1, 3, none⟩) ly_12).trans y3_12
        have y4_13 := (hl.cell (p := ⟨cx + 1, 4, none⟩) ly_12).trans y4_12
        have ly_13 := Nat.lt_of_lt_of_le ly_12 hl.size
        clear x0_12 x1_12 x2_12 x3_12 x4_12 y0_12 y1_12 y2_12 y3_12 y4_12 lx_12 ly_12
        clear hl
        by_cases h12 : 12 < tm
        · have HAE2 : Hid (ae = 2) := Lib.hid (by
            rw [← HAE.out]
            unfold alikeE
            rw [HF.out, HFYE.out, if_neg (by simp), if_neg (by simp), ← HTM.out, if_pos h12])
          obtain rfl : ae = 2 := HAE2.out
          obtain rfl : ab = false := by rw [← HAB.out]; exact alike_bad HAE.out (by decide)
          have h12' : (12 : Int) < (tm : Int) := by omega
          clear h12
          go_wp2_with fail
          go_ret
          exact ⟨rfl, HB9.out.trans (HBW10.out.mono HB9.out.size)⟩
        · have HAE2 : Hid (ae = 0) := Lib.hid (by
            rw [← HAE.out]
            unfold alikeE
            rw [HF.out, HFYE.out, if_neg (by simp), if_neg (by simp), ← HTM.out, if_neg h12])
          obtain rfl : ae = 0 := HAE2.out
          have hab : ab = alikeR x y (allAt x y) [] := by rw [← HAB.out]; exact alikeB_zero HERR.out HEY.out HAE.out
          rw [← hab] at HAA
          have h12' : ¬ (12 : Int) < (tm : Int) := by omega
          clear h12 hab
          by_cases h8 : 8 < tm
          · have h8' : (8 : Int) < (tm : Int) := by omega
            clear h8
            go_wp2_with fail
            go_ret
            exact ⟨rfl, HB9.out.trans (HBW10.out.mono HB9.out.size)⟩
          · have h8' : ¬ (8 : Int) < (tm : Int) := by omega
            clear h8
            go_wp2_with fail
            refine Calls.mono (HAA.out W10 HBW10.out) ?_
            rintro e' W11 ⟨rfl, hl⟩
            have HBW11 := Lib.hid (HBW10.out.trans (hl.mono HBW10.out.size))
            have x0_14 := (hl.cell (p := ⟨cx, 0, none⟩) lx_13).trans x0_13
            have x1_14 := (hl.cell (p := ⟨cx, 1, none⟩) lx_13).trans x1_13
            have x2_14 := (hl.cell (p := ⟨cx, 2, none⟩) lx_13).trans x2_13
            have x3_14 := (hl.cell (p := ⟨cx, 3, none⟩) lx_13).trans x3_13
            have x4_14 := (hl.cell (p := ⟨cx, 4, none⟩) lx_13).trans x4_13
            have lx_14 := Nat.lt_of_lt_of_le lx_13 hl.size
            have y0_14 := (hl.cell (p := ⟨cx + 1, 0, none⟩) ly_13).trans y0_13
            have y1_14 := (hl.cell (p := ⟨cx + 1, 1, none⟩) ly_13).trans y1_13
            have y2_14 := (hl.cell (p := ⟨cx + 1, 2, none⟩) ly_13).trans y2_13
            have y3_14 := (hl.cell (p := ⟨cx + 1, 3, none⟩) ly_13).trans y3_13
            have y4_14 := (hl.cell (p := ⟨cx + 1, 4, none⟩) ly_13).trans y4_13
            have ly_14 := Nat.lt_of_lt_of_le ly_13 hl.size
            clear x0_13 x1_13 x2_13 x3_13 x4_13 y0_13 y1_13 y2_13 y3_13 y4_13 lx_13 ly_13
            clear hl
            go_wp2_with fail
            go_ret
            exact ⟨by simp, HB9.out.trans (HBW11.out.mono HB9.out.size)⟩
      · have hfy2 : (fy != 0) = true := by simpa using hfy
        have HAE2 : Hid (ae = fy) := Lib.hid (by
          rw [← HAE.out]
          unfold alikeE
          rw [HF.out, HFYE.out, if_neg (by simp), if_pos hfy])
        obtain rfl : ae = fy := HAE2.out
        obtain rfl : ab = false := by rw [← HAB.out]; exact alike_bad HAE.out hfy
        clear hfy
        go_wp2_with fail
        refine Calls.mono (HFY.out W8 HBW8.out) ?_
        rintro e' W9 ⟨rfl, hl⟩
        have HBW9 := Lib.hid (HBW8.out.trans (hl.mono HBW8.out.size))
        have x0_12 := (hl.cell (p := ⟨cx, 0, none⟩) lx_11).trans x0_11
        have x1_12 := (hl.cell (p := ⟨cx, 1, none⟩) lx_11).trans x1_11
        have x2_12 := (hl.cell (p := ⟨cx, 2, none⟩) lx_11).trans x2_11
        have x3_12 := (hl.cell (p := ⟨cx, 3, none⟩) lx_11).trans x3_11
        have x4_12 := (hl.cell (p := ⟨cx, 4, none⟩) lx_11).trans x4_11
        have lx_12 := Nat.lt_of_lt_of_le lx_11 hl.size
        have y0_12 := (hl.cell (p := ⟨cx + 1, 0, none⟩) ly_11).trans y0_11
        have y1_12 := (hl.cell (p := ⟨cx + 1, 1, none⟩) ly_11).trans y1_11
        have y2_12 := (hl.cell (p := ⟨cx + 1, 2, none⟩) ly_11).trans y2_11
        have y3_12 := (hl.cell (p := ⟨cx + 1, 3, none⟩) ly_11).trans y3_11
        have y4_12 := (hl.cell (p := ⟨cx + 1, 4, none⟩) ly_11).trans y4_11
        have ly_12 := Nat.lt_of_lt_of_le ly_11 hl.size
        clear x0_11 x1_11 x2_11 x3_11 x4_11 y0_11 y1_11 y2_11 y3_11 y4_11 lx_11 ly_11
        clear hl
        go_wp2_with fail
        go_ret
        exact ⟨by simp, HB9.out.trans (HBW9.out.mono HB9.out.size)⟩
    · have hne : ne = 0 := by
        rw [← HNE.out]
        unfold Ask.normE
        rw [HF.out, if_neg (by simp), HZ.out, if_neg hz]
      have hnx : nx = x.nrm false := by
        rw [← HNX.out]
        unfold Ask.normV
        rw [if_pos (by rw [HNE.out, hne])]
      subst hne
      subst hnx
      have hz2 : ¬ (60 : Int) < (z : Int) := by omega
      clear hz
      go_wp2_with fail
      refine Calls.mono (same_any (x.nrm false) _ _ W7 HN7.out HR7.out) ?_
      rintro e' W8 ⟨rfl, hl⟩
      have HBW8 := Lib.hid (HBW7.out.trans (hl.mono HBW7.out.size))
      have x0_11 := (hl.cell (p := ⟨cx, 0, none⟩) lx_10).trans x0_10
      have x1_11 := (hl.cell (p := ⟨cx, 1, none⟩) lx_10).trans x1_10
      have x2_11 := (hl.cell (p := ⟨cx, 2, none⟩) lx_10).trans x2_10
      have x3_11 := (hl.cell (p := ⟨cx, 3, none⟩) lx_10).trans x3_10
      have x4_11 := (hl.cell (p := ⟨cx, 4, none⟩) lx_10).trans x4_10
      have lx_11 := Nat.lt_of_lt_of_le lx_10 hl.size
      have y0_11 := (hl.cell (p := ⟨cx + 1, 0, none⟩) ly_10).trans y0_10
      have y1_11 := (hl.cell (p := ⟨cx + 1, 1, none⟩) ly_10).trans y1_10
      have y2_11 := (hl.cell (p := ⟨cx + 1, 2, none⟩) ly_10).trans y2_10
      have y3_11 := (hl.cell (p := ⟨cx + 1, 3, none⟩) ly_10).trans y3_10
      have y4_11 := (hl.cell (p := ⟨cx + 1, 4, none⟩) ly_10).trans y4_10
      have ly_11 := Nat.lt_of_lt_of_le ly_10 hl.size
      have n0_11 := (hl.cell (p := ⟨cn, 0, none⟩) ln_10).trans n0_10
      have n1_11 := (hl.cell (p := ⟨cn, 1, none⟩) ln_10).trans n1_10
      have n2_11 := (hl.cell (p := ⟨cn, 2, none⟩) ln_10).trans n2_10
      have n3_11 := (hl.cell (p := ⟨cn, 3, none⟩) ln_10).trans n3_10
      have n4_11 := (hl.cell (p := ⟨cn, 4, none⟩) ln_10).trans n4_10
      have ln_11 := Nat.lt_of_lt_of_le ln_10 hl.size
      have z0_11 := (hl.cell (p := ⟨cz, 0, none⟩) lz_10).trans z0_10
      have z1_11 := (hl.cell (p := ⟨cz, 1, none⟩) lz_10).trans z1_10
      have z2_11 := (hl.cell (p := ⟨cz, 2, none⟩) lz_10).trans z2_10
      have z3_11 := (hl.cell (p := ⟨cz, 3, none⟩) lz_10).trans z3_10
      have z4_11 := (hl.cell (p := ⟨cz, 4, none⟩) lz_10).trans z4_10
      have lz_11 := Nat.lt_of_lt_of_le lz_10 hl.size
      have r0_11 := (hl.cell (p := ⟨cp, 0, none⟩) lr_10).trans r0_10
      have r1_11 := (hl.cell (p := ⟨cp, 1, none⟩) lr_10).trans r1_10
      have r2_11 := (hl.cell (p := ⟨cp, 2, none⟩) lr_10).trans r2_10
      have r3_11 := (hl.cell (p := ⟨cp, 3, none⟩) lr_10).trans r3_10
      have r4_11 := (hl.cell (p := ⟨cp, 4, none⟩) lr_10).trans r4_10
      have lr_11 := Nat.lt_of_lt_of_le lr_10 hl.size
      clear x0_10 x1_10 x2_10 x3_10 x4_10 y0_10 y1_10 y2_10 y3_10 y4_10 n0_10 n1_10 n2_10 n3_10 n4_10 z0_10 z1_10 z2_10 z3_10 z4_10 r0_10 r1_10 r2_10 r3_10 r4_10 lx_10 ly_10 ln_10 lz_10 lr_10
      clear hl
      clear n0_11 n1_11 n2_11 n3_11 n4_11 ln_11
      clear z0_11 z1_11 z2_11 z3_11 z4_11 lz_11
      clear r0_11 r1_11 r2_11 r3_11 r4_11 lr_11
      by_cases hfy : fy = 0
      · subst hfy
        obtain ⟨hey, hsy⟩ := fault_err HFYE.out
        have HEY := Lib.hid hey
        have HSY6 := Lib.hid hsy
        have HAT : Hid (∀ W, Below W0.heap.size W0 W → Calls Tryd.prog 12 #[.agg #[.int .i64 k, .string a1, .string a2, .int .i64 nu, .slice ad n cap], .agg #[.int .i64 k', .string a1', .string a2', .int .i64 nu', .slice ad' n' cap']] W (RefAQ W (allAt x y))) := Lib.hid (fun W hW => AllAtoms_any x y _ _ W HERR.out HEY.out HSX6.out HSY6.out (AskV.below hW _ _ HXV.out) (AskV.below hW _ _ HYV.out))
        unfold RefAQ at HAT
        have HAA : Hid (∀ W, Below W0.heap.size W0 W → Calls Tryd.prog 13 #[.agg #[.int .i64 k, .string a1, .string a2, .int .i64 nu, .slice ad n cap], .agg #[.int .i64 k', .string a1', .string a2', .int .i64 nu', .slice ad' n' cap']] W fun e w' => e = .returned (.bool (alikeR x y (allAt x y) [])) ∧ Below W.heap.size W w') := Lib.hid (fun W hW => AlikeAsks_any x y _ _ W HERR.out HEY.out HSX6.out HSY6.out (AskV.below hW _ _ HXV.out) (AskV.below hW _ _ HYV.out))
        clear hey hsy
        go_wp2_with fail
        refine Calls.mono (HFY.out W8 HBW8.out) ?_
        rintro e' W9 ⟨rfl, hl⟩
        have HBW9 := Lib.hid (HBW8.out.trans (hl.mono HBW8.out.size))
        have x0_12 := (hl.cell (p := ⟨cx, 0, none⟩) lx_11).trans x0_11
        have x1_12 := (hl.cell (p := ⟨cx, 1, none⟩) lx_11).trans x1_11
        have x2_12 := (hl.cell (p := ⟨cx, 2, none⟩) lx_11).trans x2_11
        have x3_12 := (hl.cell (p := ⟨cx, 3, none⟩) lx_11).trans x3_11
        have x4_12 := (hl.cell (p := ⟨cx, 4, none⟩) lx_11).trans x4_11
        have lx_12 := Nat.lt_of_lt_of_le lx_11 hl.size
        have y0_12 := (hl.cell (p := ⟨cx + 1, 0, none⟩) ly_11).trans y0_11
        have y1_12 := (hl.cell (p := ⟨cx + 1, 1, none⟩) ly_11).trans y1_11
        have y2_12 := (hl.cell (p := ⟨cx + 1, 2, none⟩) ly_11).trans y2_11
        have y3_12 := (hl.cell (p := ⟨cx + 1, 3, none⟩) ly_11).trans y3_11
        have y4_12 := (hl.cell (p := ⟨cx + 1, 4, none⟩) ly_11).trans y4_11
        have ly_12 := Nat.lt_of_lt_of_le ly_11 hl.size
        clear x0_11 x1_11 x2_11 x3_11 x4_11 y0_11 y1_11 y2_11 y3_11 y4_11 lx_11 ly_11
        clear hl
        go_wp2_with fail
        refine Calls.mono (HAT.out W9 HBW9.out) ?_
        rintro e' W10 ⟨ta, tm, tc, rfl, htm, _, _, _, hl⟩
        have HBW10 := Lib.hid (HBW9.out.trans (hl.mono HBW9.out.size))
        have HTM := Lib.hid htm
        clear htm
        have x0_13 := (hl.cell (p := ⟨cx, 0, none⟩) lx_12).trans x0_12
        have x1_13 := (hl.cell (p := ⟨cx, 1, none⟩) lx_12).trans x1_12
        have x2_13 := (hl.cell (p := ⟨cx, 2, none⟩) lx_12).trans x2_12
        have x3_13 := (hl.cell (p := ⟨cx, 3, none⟩) lx_12).trans x3_12
        have x4_13 := (hl.cell (p := ⟨cx, 4, none⟩) lx_12).trans x4_12
        have lx_13 := Nat.lt_of_lt_of_le lx_12 hl.size
        have y0_13 := (hl.cell (p := ⟨cx + 1, 0, none⟩) ly_12).trans y0_12
        have y1_13 := (hl.cell (p := ⟨cx + 1, 1, none⟩) ly_12).trans y1_12
        have y2_13 := (hl.cell (p := ⟨cx + 1, 2, none⟩) ly_12).trans y2_12
        have y3_13 := (hl.cell (p := ⟨cx + 1, 3, none⟩) ly_12).trans y3_12
        have y4_13 := (hl.cell (p := ⟨cx + 1, 4, none⟩) ly_12).trans y4_12
        have ly_13 := Nat.lt_of_lt_of_le ly_12 hl.size
        clear x0_12 x1_12 x2_12 x3_12 x4_12 y0_12 y1_12 y2_12 y3_12 y4_12 lx_12 ly_12
        clear hl
        by_cases h12 : 12 < tm
        · have HAE2 : Hid (ae = 2) := Lib.hid (by
            rw [← HAE.out]
            unfold alikeE
            rw [HF.out, HFYE.out, if_neg (by simp), if_neg (by simp), ← HTM.out, if_pos h12])
          obtain rfl : ae = 2 := HAE2.out
          obtain rfl : ab = false := by rw [← HAB.out]; exact alike_bad HAE.out (by decide)
          have h12' : (12 : Int) < (tm : Int) := by omega
          clear h12
          go_wp2_with fail
          go_ret
          exact ⟨rfl, HB9.out.trans (HBW10.out.mono HB9.out.size)⟩
        · have HAE2 : Hid (ae = 0) := Lib.hid (by
            rw [← HAE.out]
            unfold alikeE
            rw [HF.out, HFYE.out, if_neg (by simp), if_neg (by simp), ← HTM.out, if_neg h12])
          obtain rfl : ae = 0 := HAE2.out
          have hab : ab = alikeR x y (allAt x y) [] := by rw [← HAB.out]; exact alikeB_zero HERR.out HEY.out HAE.out
          rw [← hab] at HAA
          have h12' : ¬ (12 : Int) < (tm : Int) := by omega
          clear h12 hab
          by_cases h8 : 8 < tm
          · have h8' : (8 : Int) < (tm : Int) := by omega
            clear h8
            go_wp2_with fail
            go_ret
            exact ⟨rfl, HB9.out.trans (HBW10.out.mono HB9.out.size)⟩
          · have h8' : ¬ (8 : Int) < (tm : Int) := by omega
            clear h8
            go_wp2_with fail
            refine Calls.mono (HAA.out W10 HBW10.out) ?_
            rintro e' W11 ⟨rfl, hl⟩
            have HBW11 := Lib.hid (HBW10.out.trans (hl.mono HBW10.out.size))
            have x0_14 := (hl.cell (p := ⟨cx, 0, none⟩) lx_13).trans x0_13
            have x1_14 := (hl.cell (p := ⟨cx, 1, none⟩) lx_13).trans x1_13
            have x2_14 := (hl.cell (p := ⟨cx, 2, none⟩) lx_13).trans x2_13
            have x3_14 := (hl.cell (p := ⟨cx, 3, none⟩) lx_13).trans x3_13
            have x4_14 := (hl.cell (p := ⟨cx, 4, none⟩) lx_13).trans x4_13
            have lx_14 := Nat.lt_of_lt_of_le lx_13 hl.size
            have y0_14 := (hl.cell (p := ⟨cx + 1, 0, none⟩) ly_13).trans y0_13
            have y1_14 := (hl.cell (p := ⟨cx + 1, 1, none⟩) ly_13).trans y1_13
            have y2_14 := (hl.cell (p := ⟨cx + 1, 2, none⟩) ly_13).trans y2_13
            have y3_14 := (hl.cell (p := ⟨cx + 1, 3, none⟩) ly_13).trans y3_13
            have y4_14 := (hl.cell (p := ⟨cx + 1, 4, none⟩) ly_13).trans y4_13
            have ly_14 := Nat.lt_of_lt_of_le ly_13 hl.size
            clear x0_13 x1_13 x2_13 x3_13 x4_13 y0_13 y1_13 y2_13 y3_13 y4_13 lx_13 ly_13
            clear hl
            go_wp2_with fail
            go_ret
            exact ⟨by simp, HB9.out.trans (HBW11.out.mono HB9.out.size)⟩
      · have hfy2 : (fy != 0) = true := by simpa using hfy
        have HAE2 : Hid (ae = fy) := Lib.hid (by
          rw [← HAE.out]
          unfold alikeE
          rw [HF.out, HFYE.out, if_neg (by simp), if_pos hfy])
        obtain rfl : ae = fy := HAE2.out
        obtain rfl : ab = false := by rw [← HAB.out]; exact alike_bad HAE.out hfy
        clear hfy
        go_wp2_with fail
        refine Calls.mono (HFY.out W8 HBW8.out) ?_
        rintro e' W9 ⟨rfl, hl⟩
        have HBW9 := Lib.hid (HBW8.out.trans (hl.mono HBW8.out.size))
        have x0_12 := (hl.cell (p := ⟨cx, 0, none⟩) lx_11).trans x0_11
        have x1_12 := (hl.cell (p := ⟨cx, 1, none⟩) lx_11).trans x1_11
        have x2_12 := (hl.cell (p := ⟨cx, 2, none⟩) lx_11).trans x2_11
        have x3_12 := (hl.cell (p := ⟨cx, 3, none⟩) lx_11).trans x3_11
        have x4_12 := (hl.cell (p := ⟨cx, 4, none⟩) lx_11).trans x4_11
        have lx_12 := Nat.lt_of_lt_of_le lx_11 hl.size
        have y0_12 := (hl.cell (p := ⟨cx + 1, 0, none⟩) ly_11).trans y0_11
        have y1_12 := (hl.cell (p := ⟨cx + 1, 1, none⟩) ly_11).trans y1_11
        have y2_12 := (hl.cell (p := ⟨cx + 1, 2, none⟩) ly_11).trans y2_11
        have y3_12 := (hl.cell (p := ⟨cx + 1, 3, none⟩) ly_11).trans y3_11
        have y4_12 := (hl.cell (p := ⟨cx + 1, 4, none⟩) ly_11).trans y4_11
        have ly_12 := Nat.lt_of_lt_of_le ly_11 hl.size
        clear x0_11 x1_11 x2_11 x3_11 x4_11 y0_11 y1_11 y2_11 y3_11 y4_11 lx_11 ly_11
        clear hl
        go_wp2_with fail
        go_ret
        exact ⟨by simp, HB9.out.trans (HBW9.out.mono HB9.out.size)⟩
  · have HF := Lib.hid hf
    have hho : x.holds h = false := by unfold Ask.holds; rw [if_neg hf]
    have hne : x.normE = x.fault := by unfold Ask.normE; rw [if_pos hf]
    have hnx : x.normV = Ask.none := by unfold Ask.normV; rw [hne, if_neg hf]
    have hae : alikeE x y = x.fault := by unfold alikeE; rw [if_pos hf]
    have hab : alikeB x y = false := alike_bad hae hf
    rw [hho] at HCH
    rw [hne, hnx] at HCN
    rw [hae, hab] at HCA
    obtain ⟨fx, hfx⟩ : ∃ b, x.fault = b := ⟨_, rfl⟩
    rw [hfx] at HCH HCN HCA HFX
    have hfx2 : (fx != 0) = true := by rw [← hfx]; simpa using hf
    clear hf hho hne hnx hae hab hfx
    go_enter Tryd.func3, Tryd.ntmps3
    go_upto_region 1 with fail
    rw [← hW0, ← hcx]
    clear hW0 hcx
    go_wp2_with fail
    refine Calls.mono (HCH.out) ?_
    rintro e' W1 ⟨rfl, hl⟩
    have HBW1 := Lib.hid (HBW0.out.trans (hl.mono HBW0.out.size))
    have x0_1 := (hl.cell (p := ⟨cx, 0, none⟩) lx_0).trans x0_0
    have x1_1 := (hl.cell (p := ⟨cx, 1, none⟩) lx_0).trans x1_0
    have x2_1 := (hl.cell (p := ⟨cx, 2, none⟩) lx_0).trans x2_0
    have x3_1 := (hl.cell (p := ⟨cx, 3, none⟩) lx_0).trans x3_0
    have x4_1 := (hl.cell (p := ⟨cx, 4, none⟩) lx_0).trans x4_0
    have lx_1 := Nat.lt_of_lt_of_le lx_0 hl.size
    have y0_1 := (hl.cell (p := ⟨cx + 1, 0, none⟩) ly_0).trans y0_0
    have y1_1 := (hl.cell (p := ⟨cx + 1, 1, none⟩) ly_0).trans y1_0
    have y2_1 := (hl.cell (p := ⟨cx + 1, 2, none⟩) ly_0).trans y2_0
    have y3_1 := (hl.cell (p := ⟨cx + 1, 3, none⟩) ly_0).trans y3_0
    have y4_1 := (hl.cell (p := ⟨cx + 1, 4, none⟩) ly_0).trans y4_0
    have ly_1 := Nat.lt_of_lt_of_le ly_0 hl.size
    have h0_1 := (hl.cell (p := ⟨cx + 2, 0, none⟩) lh_0).trans h0_0
    have h1_1 := (hl.cell (p := ⟨cx + 2, 1, none⟩) lh_0).trans h1_0
    have h2_1 := (hl.cell (p := ⟨cx + 2, 2, none⟩) lh_0).trans h2_0
    have h3_1 := (hl.cell (p := ⟨cx + 2, 3, none⟩) lh_0).trans h3_0
    have h4_1 := (hl.cell (p := ⟨cx + 2, 4, none⟩) lh_0).trans h4_0
    have h5_1 := (hl.cell (p := ⟨cx + 2, 5, none⟩) lh_0).trans h5_0
    have h6_1 := (hl.cell (p := ⟨cx + 2, 6, none⟩) lh_0).trans h6_0
    have h7_1 := (hl.cell (p := ⟨cx + 2, 7, none⟩) lh_0).trans h7_0
    have lh_1 := Nat.lt_of_lt_of_le lh_0 hl.size
    clear x0_0 x1_0 x2_0 x3_0 x4_0 y0_0 y1_0 y2_0 y3_0 y4_0 h0_0 h1_0 h2_0 h3_0 h4_0 h5_0 h6_0 h7_0 lx_0 ly_0 lh_0
    clear hl
    go_wp2_with fail
    refine Calls.mono (HCN.out W1 HBW1.out) ?_
    rintro e' W2 ⟨q0, q1, q2, q3, qd, ql, qc, rfl, hnv, hl⟩
    have HBW2 := Lib.hid (HBW1.out.trans (hl.mono HBW1.out.size))
    have HDW2 : Hid (Below W2.heap.size W2 W2) := Lib.hid (Below.refl _ _)
    have HNV := Lib.hid hnv
    clear hnv
    have x0_2 := (hl.cell (p := ⟨cx, 0, none⟩) lx_1).trans x0_1
    have x1_2 := (hl.cell (p := ⟨cx, 1, none⟩) lx_1).trans x1_1
    have x2_2 := (hl.cell (p := ⟨cx, 2, none⟩) lx_1).trans x2_1
    have x3_2 := (hl.cell (p := ⟨cx, 3, none⟩) lx_1).trans x3_1
    have x4_2 := (hl.cell (p := ⟨cx, 4, none⟩) lx_1).trans x4_1
    have lx_2 := Nat.lt_of_lt_of_le lx_1 hl.size
    have y0_2 := (hl.cell (p := ⟨cx + 1, 0, none⟩) ly_1).trans y0_1
    have y1_2 := (hl.cell (p := ⟨cx + 1, 1, none⟩) ly_1).trans y1_1
    have y2_2 := (hl.cell (p := ⟨cx + 1, 2, none⟩) ly_1).trans y2_1
    have y3_2 := (hl.cell (p := ⟨cx + 1, 3, none⟩) ly_1).trans y3_1
    have y4_2 := (hl.cell (p := ⟨cx + 1, 4, none⟩) ly_1).trans y4_1
    have ly_2 := Nat.lt_of_lt_of_le ly_1 hl.size
    have h0_2 := (hl.cell (p := ⟨cx + 2, 0, none⟩) lh_1).trans h0_1
    have h1_2 := (hl.cell (p := ⟨cx + 2, 1, none⟩) lh_1).trans h1_1
    have h2_2 := (hl.cell (p := ⟨cx + 2, 2, none⟩) lh_1).trans h2_1
    have h3_2 := (hl.cell (p := ⟨cx + 2, 3, none⟩) lh_1).trans h3_1
    have h4_2 := (hl.cell (p := ⟨cx + 2, 4, none⟩) lh_1).trans h4_1
    have h5_2 := (hl.cell (p := ⟨cx + 2, 5, none⟩) lh_1).trans h5_1
    have h6_2 := (hl.cell (p := ⟨cx + 2, 6, none⟩) lh_1).trans h6_1
    have h7_2 := (hl.cell (p := ⟨cx + 2, 7, none⟩) lh_1).trans h7_1
    have lh_2 := Nat.lt_of_lt_of_le lh_1 hl.size
    clear x0_1 x1_1 x2_1 x3_1 x4_1 y0_1 y1_1 y2_1 y3_1 y4_1 h0_1 h1_1 h2_1 h3_1 h4_1 h5_1 h6_1 h7_1 lx_1 ly_1 lh_1
    clear hl
    obtain ⟨Wn, hWn⟩ : ∃ W, W = W2.alloc (.cells #[.int .i64 q0, .string q1, .string q2, .int .i64 q3, .slice qd ql qc] 24) := ⟨_, rfl⟩
    have hl : Below W2.heap.size W2 Wn := by rw [hWn]; exact (Below.refl _ _).alloc (Nat.le_refl _) _
    obtain ⟨cn, hcn⟩ : ∃ c, c = W2.heap.size := ⟨_, rfl⟩
    have x0_3 := (hl.cell (p := ⟨cx, 0, none⟩) lx_2).trans x0_2
    have x1_3 := (hl.cell (p := ⟨cx, 1, none⟩) lx_2).trans x1_2
    have x2_3 := (hl.cell (p := ⟨cx, 2, none⟩) lx_2).trans x2_2
    have x3_3 := (hl.cell (p := ⟨cx, 3, none⟩) lx_2).trans x3_2
    have x4_3 := (hl.cell (p := ⟨cx, 4, none⟩) lx_2).trans x4_2
    have lx_3 := Nat.lt_of_lt_of_le lx_2 hl.size
    have y0_3 := (hl.cell (p := ⟨cx + 1, 0, none⟩) ly_2).trans y0_2
    have y1_3 := (hl.cell (p := ⟨cx + 1, 1, none⟩) ly_2).trans y1_2
    have y2_3 := (hl.cell (p := ⟨cx + 1, 2, none⟩) ly_2).trans y2_2
    have y3_3 := (hl.cell (p := ⟨cx + 1, 3, none⟩) ly_2).trans y3_2
    have y4_3 := (hl.cell (p := ⟨cx + 1, 4, none⟩) ly_2).trans y4_2
    have ly_3 := Nat.lt_of_lt_of_le ly_2 hl.size
    have h0_3 := (hl.cell (p := ⟨cx + 2, 0, none⟩) lh_2).trans h0_2
    have h1_3 := (hl.cell (p := ⟨cx + 2, 1, none⟩) lh_2).trans h1_2
    have h2_3 := (hl.cell (p := ⟨cx + 2, 2, none⟩) lh_2).trans h2_2
    have h3_3 := (hl.cell (p := ⟨cx + 2, 3, none⟩) lh_2).trans h3_2
    have h4_3 := (hl.cell (p := ⟨cx + 2, 4, none⟩) lh_2).trans h4_2
    have h5_3 := (hl.cell (p := ⟨cx + 2, 5, none⟩) lh_2).trans h5_2
    have h6_3 := (hl.cell (p := ⟨cx + 2, 6, none⟩) lh_2).trans h6_2
    have h7_3 := (hl.cell (p := ⟨cx + 2, 7, none⟩) lh_2).trans h7_2
    have lh_3 := Nat.lt_of_lt_of_le lh_2 hl.size
    clear x0_2 x1_2 x2_2 x3_2 x4_2 y0_2 y1_2 y2_2 y3_2 y4_2 h0_2 h1_2 h2_2 h3_2 h4_2 h5_2 h6_2 h7_2 lx_2 ly_2 lh_2
    have n0_3 : Wn.cell? ⟨cn, 0, none⟩ = some (.int .i64 q0) := by rw [hWn]; exact (cell_top _ _ _ _ _ hcn).trans rfl
    have n1_3 : Wn.cell? ⟨cn, 1, none⟩ = some (.string q1) := by rw [hWn]; exact (cell_top _ _ _ _ _ hcn).trans rfl
    have n2_3 : Wn.cell? ⟨cn, 2, none⟩ = some (.string q2) := by rw [hWn]; exact (cell_top _ _ _ _ _ hcn).trans rfl
    have n3_3 : Wn.cell? ⟨cn, 3, none⟩ = some (.int .i64 q3) := by rw [hWn]; exact (cell_top _ _ _ _ _ hcn).trans rfl
    have n4_3 : Wn.cell? ⟨cn, 4, none⟩ = some (.slice qd ql qc) := by rw [hWn]; exact (cell_top _ _ _ _ _ hcn).trans rfl
    have ln_3 : cn < Wn.heap.size := by rw [hWn, hcn]; simp
    have HBWn := Lib.hid (HBW2.out.trans (hl.mono HBW2.out.size))
    have HDWn := Lib.hid (HDW2.out.trans (hl.mono HDW2.out.size))
    clear hl
    go_upto_region 3 with fail
    rw [← hWn, ← hcn]
    clear hWn hcn
    go_wp2_with fail
    refine Calls.mono (HCA.out Wn HBWn.out) ?_
    rintro e' W3 ⟨rfl, hl⟩
    have HBW3 := Lib.hid (HBWn.out.trans (hl.mono HBWn.out.size))
    have HDW3 := Lib.hid (HDWn.out.trans (hl.mono HDWn.out.size))
    have x0_4 := (hl.cell (p := ⟨cx, 0, none⟩) lx_3).trans x0_3
    have x1_4 := (hl.cell (p := ⟨cx, 1, none⟩) lx_3).trans x1_3
    have x2_4 := (hl.cell (p := ⟨cx, 2, none⟩) lx_3).trans x2_3
    have x3_4 := (hl.cell (p := ⟨cx, 3, none⟩) lx_3).trans x3_3
    have x4_4 := (hl.cell (p := ⟨cx, 4, none⟩) lx_3).trans x4_3
    have lx_4 := Nat.lt_of_lt_of_le lx_3 hl.size
    have y0_4 := (hl.cell (p := ⟨cx + 1, 0, none⟩) ly_3).trans y0_3
    have y1_4 := (hl.cell (p := ⟨cx + 1, 1, none⟩) ly_3).trans y1_3
    have y2_4 := (hl.cell (p := ⟨cx + 1, 2, none⟩) ly_3).trans y2_3
    have y3_4 := (hl.cell (p := ⟨cx + 1, 3, none⟩) ly_3).trans y3_3
    have y4_4 := (hl.cell (p := ⟨cx + 1, 4, none⟩) ly_3).trans y4_3
    have ly_4 := Nat.lt_of_lt_of_le ly_3 hl.size
    have h0_4 := (hl.cell (p := ⟨cx + 2, 0, none⟩) lh_3).trans h0_3
    have h1_4 := (hl.cell (p := ⟨cx + 2, 1, none⟩) lh_3).trans h1_3
    have h2_4 := (hl.cell (p := ⟨cx + 2, 2, none⟩) lh_3).trans h2_3
    have h3_4 := (hl.cell (p := ⟨cx + 2, 3, none⟩) lh_3).trans h3_3
    have h4_4 := (hl.cell (p := ⟨cx + 2, 4, none⟩) lh_3).trans h4_3
    have h5_4 := (hl.cell (p := ⟨cx + 2, 5, none⟩) lh_3).trans h5_3
    have h6_4 := (hl.cell (p := ⟨cx + 2, 6, none⟩) lh_3).trans h6_3
    have h7_4 := (hl.cell (p := ⟨cx + 2, 7, none⟩) lh_3).trans h7_3
    have lh_4 := Nat.lt_of_lt_of_le lh_3 hl.size
    have n0_4 := (hl.cell (p := ⟨cn, 0, none⟩) ln_3).trans n0_3
    have n1_4 := (hl.cell (p := ⟨cn, 1, none⟩) ln_3).trans n1_3
    have n2_4 := (hl.cell (p := ⟨cn, 2, none⟩) ln_3).trans n2_3
    have n3_4 := (hl.cell (p := ⟨cn, 3, none⟩) ln_3).trans n3_3
    have n4_4 := (hl.cell (p := ⟨cn, 4, none⟩) ln_3).trans n4_3
    have ln_4 := Nat.lt_of_lt_of_le ln_3 hl.size
    clear x0_3 x1_3 x2_3 x3_3 x4_3 y0_3 y1_3 y2_3 y3_3 y4_3 h0_3 h1_3 h2_3 h3_3 h4_3 h5_3 h6_3 h7_3 n0_3 n1_3 n2_3 n3_3 n4_3 lx_3 ly_3 lh_3 ln_3
    clear hl
    obtain ⟨Wz, hWz⟩ : ∃ W, W = W3.alloc (.cells #[.int .i64 0, .string ⟨#[]⟩, .string ⟨#[]⟩, .int .i64 0, .slice none 0 0] 24) := ⟨_, rfl⟩
    have hl : Below W3.heap.size W3 Wz := by rw [hWz]; exact (Below.refl _ _).alloc (Nat.le_refl _) _
    obtain ⟨cz, hcz⟩ : ∃ c, c = W3.heap.size := ⟨_, rfl⟩
    have x0_5 := (hl.cell (p := ⟨cx, 0, none⟩) lx_4).trans x0_4
    have x1_5 := (hl.cell (p := ⟨cx, 1, none⟩) lx_4).trans x1_4
    have x2_5 := (hl.cell (p := ⟨cx, 2, none⟩) lx_4).trans x2_4
    have x3_5 := (hl.cell (p := ⟨cx, 3, none⟩) lx_4).trans x3_4
    have x4_5 := (hl.cell (p := ⟨cx, 4, none⟩) lx_4).trans x4_4
    have lx_5 := Nat.lt_of_lt_of_le lx_4 hl.size
    have y0_5 := (hl.cell (p := ⟨cx + 1, 0, none⟩) ly_4).trans y0_4
    have y1_5 := (hl.cell (p := ⟨cx + 1, 1, none⟩) ly_4).trans y1_4
    have y2_5 := (hl.cell (p := ⟨cx + 1, 2, none⟩) ly_4).trans y2_4
    have y3_5 := (hl.cell (p := ⟨cx + 1, 3, none⟩) ly_4).trans y3_4
    have y4_5 := (hl.cell (p := ⟨cx + 1, 4, none⟩) ly_4).trans y4_4
    have ly_5 := Nat.lt_of_lt_of_le ly_4 hl.size
    have h0_5 := (hl.cell (p := ⟨cx + 2, 0, none⟩) lh_4).trans h0_4
    have h1_5 := (hl.cell (p := ⟨cx + 2, 1, none⟩) lh_4).trans h1_4
    have h2_5 := (hl.cell (p := ⟨cx + 2, 2, none⟩) lh_4).trans h2_4
    have h3_5 := (hl.cell (p := ⟨cx + 2, 3, none⟩) lh_4).trans h3_4
    have h4_5 := (hl.cell (p := ⟨cx + 2, 4, none⟩) lh_4).trans h4_4
    have h5_5 := (hl.cell (p := ⟨cx + 2, 5, none⟩) lh_4).trans h5_4
    have h6_5 := (hl.cell (p := ⟨cx + 2, 6, none⟩) lh_4).trans h6_4
    have h7_5 := (hl.cell (p := ⟨cx + 2, 7, none⟩) lh_4).trans h7_4
    have lh_5 := Nat.lt_of_lt_of_le lh_4 hl.size
    have n0_5 := (hl.cell (p := ⟨cn, 0, none⟩) ln_4).trans n0_4
    have n1_5 := (hl.cell (p := ⟨cn, 1, none⟩) ln_4).trans n1_4
    have n2_5 := (hl.cell (p := ⟨cn, 2, none⟩) ln_4).trans n2_4
    have n3_5 := (hl.cell (p := ⟨cn, 3, none⟩) ln_4).trans n3_4
    have n4_5 := (hl.cell (p := ⟨cn, 4, none⟩) ln_4).trans n4_4
    have ln_5 := Nat.lt_of_lt_of_le ln_4 hl.size
    clear x0_4 x1_4 x2_4 x3_4 x4_4 y0_4 y1_4 y2_4 y3_4 y4_4 h0_4 h1_4 h2_4 h3_4 h4_4 h5_4 h6_4 h7_4 n0_4 n1_4 n2_4 n3_4 n4_4 lx_4 ly_4 lh_4 ln_4
    have z0_5 : Wz.cell? ⟨cz, 0, none⟩ = some (.int .i64 0) := by rw [hWz]; exact (cell_top _ _ _ _ _ hcz).trans rfl
    have z1_5 : Wz.cell? ⟨cz, 1, none⟩ = some (.string ⟨#[]⟩) := by rw [hWz]; exact (cell_top _ _ _ _ _ hcz).trans rfl
    have z2_5 : Wz.cell? ⟨cz, 2, none⟩ = some (.string ⟨#[]⟩) := by rw [hWz]; exact (cell_top _ _ _ _ _ hcz).trans rfl
    have z3_5 : Wz.cell? ⟨cz, 3, none⟩ = some (.int .i64 0) := by rw [hWz]; exact (cell_top _ _ _ _ _ hcz).trans rfl
    have z4_5 : Wz.cell? ⟨cz, 4, none⟩ = some (.slice none 0 0) := by rw [hWz]; exact (cell_top _ _ _ _ _ hcz).trans rfl
    have lz_5 : cz < Wz.heap.size := by rw [hWz, hcz]; simp
    have HBWz := Lib.hid (HBW3.out.trans (hl.mono HBW3.out.size))
    have HDWz := Lib.hid (HDW3.out.trans (hl.mono HDW3.out.size))
    clear hl
    go_upto_region 5 with fail
    rw [← hWz, ← hcz]
    clear hWz hcz
    go_wp2_with fail
    refine Calls.mono (HFX.out Wz HBWz.out) ?_
    rintro e' W4 ⟨rfl, hl⟩
    have HBW4 := Lib.hid (HBWz.out.trans (hl.mono HBWz.out.size))
    have HDW4 := Lib.hid (HDWz.out.trans (hl.mono HDWz.out.size))
    have x0_6 := (hl.cell (p := ⟨cx, 0, none⟩) lx_5).trans x0_5
    have x1_6 := (hl.cell (p := ⟨cx, 1, none⟩) lx_5).trans x1_5
    have x2_6 := (hl.cell (p := ⟨cx, 2, none⟩) lx_5).trans x2_5
    have x3_6 := (hl.cell (p := ⟨cx, 3, none⟩) lx_5).trans x3_5
    have x4_6 := (hl.cell (p := ⟨cx, 4, none⟩) lx_5).trans x4_5
    have lx_6 := Nat.lt_of_lt_of_le lx_5 hl.size
    have y0_6 := (hl.cell (p := ⟨cx + 1, 0, none⟩) ly_5).trans y0_5
    have y1_6 := (hl.cell (p := ⟨cx + 1, 1, none⟩) ly_5).trans y1_5
    have y2_6 := (hl.cell (p := ⟨cx + 1, 2, none⟩) ly_5).trans y2_5
    have y3_6 := (hl.cell (p := ⟨cx + 1, 3, none⟩) ly_5).trans y3_5
    have y4_6 := (hl.cell (p := ⟨cx + 1, 4, none⟩) ly_5).trans y4_5
    have ly_6 := Nat.lt_of_lt_of_le ly_5 hl.size
    have h0_6 := (hl.cell (p := ⟨cx + 2, 0, none⟩) lh_5).trans h0_5
    have h1_6 := (hl.cell (p := ⟨cx + 2, 1, none⟩) lh_5).trans h1_5
    have h2_6 := (hl.cell (p := ⟨cx + 2, 2, none⟩) lh_5).trans h2_5
    have h3_6 := (hl.cell (p := ⟨cx + 2, 3, none⟩) lh_5).trans h3_5
    have h4_6 := (hl.cell (p := ⟨cx + 2, 4, none⟩) lh_5).trans h4_5
    have h5_6 := (hl.cell (p := ⟨cx + 2, 5, none⟩) lh_5).trans h5_5
    have h6_6 := (hl.cell (p := ⟨cx + 2, 6, none⟩) lh_5).trans h6_5
    have h7_6 := (hl.cell (p := ⟨cx + 2, 7, none⟩) lh_5).trans h7_5
    have lh_6 := Nat.lt_of_lt_of_le lh_5 hl.size
    have n0_6 := (hl.cell (p := ⟨cn, 0, none⟩) ln_5).trans n0_5
    have n1_6 := (hl.cell (p := ⟨cn, 1, none⟩) ln_5).trans n1_5
    have n2_6 := (hl.cell (p := ⟨cn, 2, none⟩) ln_5).trans n2_5
    have n3_6 := (hl.cell (p := ⟨cn, 3, none⟩) ln_5).trans n3_5
    have n4_6 := (hl.cell (p := ⟨cn, 4, none⟩) ln_5).trans n4_5
    have ln_6 := Nat.lt_of_lt_of_le ln_5 hl.size
    have z0_6 := (hl.cell (p := ⟨cz, 0, none⟩) lz_5).trans z0_5
    have z1_6 := (hl.cell (p := ⟨cz, 1, none⟩) lz_5).trans z1_5
    have z2_6 := (hl.cell (p := ⟨cz, 2, none⟩) lz_5).trans z2_5
    have z3_6 := (hl.cell (p := ⟨cz, 3, none⟩) lz_5).trans z3_5
    have z4_6 := (hl.cell (p := ⟨cz, 4, none⟩) lz_5).trans z4_5
    have lz_6 := Nat.lt_of_lt_of_le lz_5 hl.size
    clear x0_5 x1_5 x2_5 x3_5 x4_5 y0_5 y1_5 y2_5 y3_5 y4_5 h0_5 h1_5 h2_5 h3_5 h4_5 h5_5 h6_5 h7_5 n0_5 n1_5 n2_5 n3_5 n4_5 z0_5 z1_5 z2_5 z3_5 z4_5 lx_5 ly_5 lh_5 ln_5 lz_5
    clear hl
    have HN4 := Lib.hid (AskV.below HDW4.out _ _ HNV.out)
    go_wp2_with fail
    refine Calls.mono (same_any Ask.none _ _ W4 HN4.out (none_val W4)) ?_
    rintro e' W5 ⟨rfl, hl⟩
    have HBW5 := Lib.hid (HBW4.out.trans (hl.mono HBW4.out.size))
    have HDW5 := Lib.hid (HDW4.out.trans (hl.mono HDW4.out.size))
    have x0_7 := (hl.cell (p := ⟨cx, 0, none⟩) lx_6).trans x0_6
    have x1_7 := (hl.cell (p := ⟨cx, 1, none⟩) lx_6).trans x1_6
    have x2_7 := (hl.cell (p := ⟨cx, 2, none⟩) lx_6).trans x2_6
    have x3_7 := (hl.cell (p := ⟨cx, 3, none⟩) lx_6).trans x3_6
    have x4_7 := (hl.cell (p := ⟨cx, 4, none⟩) lx_6).trans x4_6
    have lx_7 := Nat.lt_of_lt_of_le lx_6 hl.size
    have y0_7 := (hl.cell (p := ⟨cx + 1, 0, none⟩) ly_6).trans y0_6
    have y1_7 := (hl.cell (p := ⟨cx + 1, 1, none⟩) ly_6).trans y1_6
    have y2_7 := (hl.cell (p := ⟨cx + 1, 2, none⟩) ly_6).trans y2_6
    have y3_7 := (hl.cell (p := ⟨cx + 1, 3, none⟩) ly_6).trans y3_6
    have y4_7 := (hl.cell (p := ⟨cx + 1, 4, none⟩) ly_6).trans y4_6
    have ly_7 := Nat.lt_of_lt_of_le ly_6 hl.size
    have h0_7 := (hl.cell (p := ⟨cx + 2, 0, none⟩) lh_6).trans h0_6
    have h1_7 := (hl.cell (p := ⟨cx + 2, 1, none⟩) lh_6).trans h1_6
    have h2_7 := (hl.cell (p := ⟨cx + 2, 2, none⟩) lh_6).trans h2_6
    have h3_7 := (hl.cell (p := ⟨cx + 2, 3, none⟩) lh_6).trans h3_6
    have h4_7 := (hl.cell (p := ⟨cx + 2, 4, none⟩) lh_6).trans h4_6
    have h5_7 := (hl.cell (p := ⟨cx + 2, 5, none⟩) lh_6).trans h5_6
    have h6_7 := (hl.cell (p := ⟨cx + 2, 6, none⟩) lh_6).trans h6_6
    have h7_7 := (hl.cell (p := ⟨cx + 2, 7, none⟩) lh_6).trans h7_6
    have lh_7 := Nat.lt_of_lt_of_le lh_6 hl.size
    have n0_7 := (hl.cell (p := ⟨cn, 0, none⟩) ln_6).trans n0_6
    have n1_7 := (hl.cell (p := ⟨cn, 1, none⟩) ln_6).trans n1_6
    have n2_7 := (hl.cell (p := ⟨cn, 2, none⟩) ln_6).trans n2_6
    have n3_7 := (hl.cell (p := ⟨cn, 3, none⟩) ln_6).trans n3_6
    have n4_7 := (hl.cell (p := ⟨cn, 4, none⟩) ln_6).trans n4_6
    have ln_7 := Nat.lt_of_lt_of_le ln_6 hl.size
    have z0_7 := (hl.cell (p := ⟨cz, 0, none⟩) lz_6).trans z0_6
    have z1_7 := (hl.cell (p := ⟨cz, 1, none⟩) lz_6).trans z1_6
    have z2_7 := (hl.cell (p := ⟨cz, 2, none⟩) lz_6).trans z2_6
    have z3_7 := (hl.cell (p := ⟨cz, 3, none⟩) lz_6).trans z3_6
    have z4_7 := (hl.cell (p := ⟨cz, 4, none⟩) lz_6).trans z4_6
    have lz_7 := Nat.lt_of_lt_of_le lz_6 hl.size
    clear x0_6 x1_6 x2_6 x3_6 x4_6 y0_6 y1_6 y2_6 y3_6 y4_6 h0_6 h1_6 h2_6 h3_6 h4_6 h5_6 h6_6 h7_6 n0_6 n1_6 n2_6 n3_6 n4_6 z0_6 z1_6 z2_6 z3_6 z4_6 lx_6 ly_6 lh_6 ln_6 lz_6
    clear hl
    go_wp2_with fail
    go_ret
    exact ⟨by simp, HB9.out.trans (HBW5.out.mono HB9.out.size)⟩
end Go.Proofs.YtkelkpfjkjcmgaaDoor
