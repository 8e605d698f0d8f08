/- Contract: the program's reader of two asks behind their bracket, given that of one. -/
import Derived.Test.YtkemlckmfgacdaaGreatDoorJnP10
import Derived.Deep.RegionHeld3
import Derived.Deep.CutBlock
import Derived.Deep.DeepCutAuto
namespace Go.Proofs.YtkemlckmfgacdaaGreatDoor
set_option maxRecDepth 20000
set_option maxHeartbeats 64000000
open Go.ChangeShapes Go.WideShapes Go.ChangeAt Go.RowKit
set_option linter.unusedVariables false
set_option linter.unusedSimpArgs false
open Tp
theorem two_of (rb N left : Nat) (s : Bs) (w : World) (hs : s.length ≤ 2000) (hE : ∀ W, But rb w W → Env W) (hr : RdrW rb s left w)
  (hA : ∀ left' s' w', left' ≤ left → s'.length ≤ 2000 → (∀ W, But rb w' W → Env W) → RdrW rb s' left' w' → Calls Tryz.prog 69 #[.pointer (some ⟨rb, 0, none⟩)] w' (AskQ rb w' (Ar.askP N left' s'))) :
  Calls Tryz.prog 93 #[.pointer (some ⟨rb, 0, none⟩)] w (AskQ rb w (twoP N left s)) := by
 obtain ⟨c, hc⟩ : ∃ c, c = w.heap.size := ⟨_, rfl⟩
 obtain ⟨W0, hW0⟩ : ∃ W, W = w.alloc (.cells #[.int .i64 0, .string ⟨#[]⟩, .string ⟨#[]⟩, .int .i64 0, .slice none 0 0] 26) := ⟨_, rfl⟩
 have HBX0 : Hid (Box5 c W0) := hid (by rw [hW0]; exact Box5.top hc)
 have HB0 : Hid (But rb w W0) := hid (by rw [hW0]; exact (But.refl _ _).alloc _)
 have HR0 : Hid (RdrW rb s left W0) := hid (by rw [hW0]; exact hr.alloc _)
 have HC := hid hc
 have HCR : Hid (c ≠ rb) := hid (by have := hr.lt; omega)
 have HEV := hid hE
 have HSL := hid hs
 have HAA := hid hA
 obtain ⟨O, hO⟩ : ∃ O, twoP N left s = O := ⟨_, rfl⟩
 have HO := hid hO
 rw [hO]
 clear hs hr hE hA hO
 go_enter Tryz.func93, Tryz.ntmps93
 go_upto_region 1 with fail
 rw [← hW0, ← hc]
 clear hW0 hc
 go_wp2_with fail
 refine Calls.mono (HAA.out left s W0 lr HSL.out (fun W h => HEV.out W (HB0.out.trans h)) HR0.out) ?_
 rintro e W1 hq
 obtain ⟨hb1, bva, x0, x1, x2, x3, xd, xl, xc, rfl, hq1⟩ := hq.form
 have HQ1 := hid hq1
 have HB1 := hid (HB0.out.trans hb1)
 have HBX1 := hid (HBX0.out.but hb1 HCR.out)
 have HS1 := hid hb1.size
 clear hb1 hq hq1
 go_upto_region 2 with fail
 obtain ⟨W2, hW2⟩ : ∃ W, W = W1.alloc (.cells #[.int .i64 x0, .string x1, .string x2, .int .i64 x3, .slice xd xl xc] 26) := ⟨_, rfl⟩
 obtain ⟨da, hd⟩ : ∃ d, d = W1.heap.size := ⟨_, rfl⟩
 have HBX2 : Hid (Box5 c W2) := hid (by rw [hW2]; exact HBX1.out.but ((But.refl rb W1).alloc _) HCR.out)
 have bda0 : W2.cell? ⟨da, 0, none⟩ = some (.int .i64 x0) := by rw [hW2]; exact (cell_top _ _ _ _ _ hd).trans rfl
 have bda1 : W2.cell? ⟨da, 1, none⟩ = some (.string x1) := by rw [hW2]; exact (cell_top _ _ _ _ _ hd).trans rfl
 have bda2 : W2.cell? ⟨da, 2, none⟩ = some (.string x2) := by rw [hW2]; exact (cell_top _ _ _ _ _ hd).trans rfl
 have bda3 : W2.cell? ⟨da, 3, none⟩ = some (.int .i64 x3) := by rw [hW2]; exact (cell_top _ _ _ _ _ hd).trans rfl
 have bda4 : W2.cell? ⟨da, 4, none⟩ = some (.slice xd xl xc) := by rw [hW2]; exact (cell_top _ _ _ _ _ hd).trans rfl
 have hdlda : da < W2.heap.size := by rw [hW2, hd]; simp
 rw [← hW2, ← hd]
 have HW2 := hid hW2
 have HDda := hid hd
 clear hW2 hd
 have HB2 : Hid (But rb w W2) := hid (by rw [HW2.out]; exact HB1.out.alloc _)
 have HS2 : Hid (W0.heap.size ≤ W2.heap.size) := hid (Nat.le_trans HS1.out (by rw [HW2.out]; simp))
 have HDA : Hid (da ≠ rb ∧ da ≠ c ∧ W0.heap.size ≤ da) := hid (by
  have h1 := HDda.out
  have h2 := HS1.out
  have h3 := HBX0.out.lt
  have h4 := HR0.out.lt
  omega)
 cases hp : Ar.askP N left s with
 | none =>
  have hq1 := HQ1.out
  rw [hp] at hq1
  obtain ⟨rfl, r, l, hrl, hr1⟩ := hq1
  have HRL := hid hrl
  have HR2 : Hid (RdrW rb r l W2) := hid (by rw [HW2.out]; exact hr1.alloc _)
  have HP : Hid (O = none) := hid (by rw [← HO.out]; exact twoP_none hp)
  clear hrl hr1 hp
  have r0 := HBX2.out.r0
  have r1 := HBX2.out.r1
  have r2 := HBX2.out.r2
  have r3 := HBX2.out.r3
  have r4 := HBX2.out.r4
  have q0 := HBX2.out.fz 0
  have q1 := HBX2.out.fz 1
  have q2 := HBX2.out.fz 2
  have q3 := HBX2.out.fz 3
  have q4 := HBX2.out.fz 4
  have hcl := HBX2.out.lt
  have hcl1 : c < W2.heap.size + 1 := Nat.lt_succ_of_lt hcl
  go_wp2_with fail
  refine bodyPost_ret (v := .tuple #[.agg #[.int .i64 0, .string ⟨#[]⟩, .string ⟨#[]⟩, .int .i64 0, .slice none 0 0], .bool false]) (by simp [results, Tryz.results93, go_sem, cell_set, r0, r1, r2, r3, r4, hcl, hcl1]) rfl ?_
  show AskQ rb w _ _ (five W2 c (.int .i64 0) (.string ⟨#[]⟩) (.string ⟨#[]⟩) (.int .i64 0) (.slice none 0 0))
  rw [HP.out]
  exact ⟨five_but HB2.out (Nat.le_of_eq HC.out.symm) _ _ _ _ _, zero5, rfl, five_zero, r, l, HRL.out, HR2.out.five HCR.out _ _ _ _ _⟩
 | some p =>
  obtain ⟨ya, r, l⟩ := p
  have hq1 := HQ1.out
  rw [hp] at hq1
  obtain ⟨rfl, hva, hr1⟩ := hq1
  have hless := Ar.askP_less N left s ya r l hp
  have HLS : Hid (l < left ∧ r.length ≤ 2000) := hid ⟨hless.1, by have := HSL.out; omega⟩
  have HR2 : Hid (RdrW rb r l W2) := hid (by rw [HW2.out]; exact hr1.alloc _)
  have HVA : Hid (AskVP (fun b => W0.heap.size ≤ b ∧ b < W1.heap.size) W2 ya (.agg #[.int .i64 x0, .string x1, .string x2, .int .i64 x3, .slice xd xl xc])) := hid (AskVP.both hva (by rw [HW2.out]; simp) (fun b _ hb => by rw [HW2.out]; exact Below.heap_alloc _ _ _ hb))
  have HOP : Hid (O = twoR N ya r l) := hid (by rw [← HO.out]; exact twoP_some hp)
  clear hva hr1 hp hless
  go_upto_region 5 with fail
  go_cut [16] (fun v W => ∃ bv, v = .bool bv ∧ Hid (But rb W2 W) ∧ Hid (bv = true ∧ (∃ r', r = 124 :: r' ∧ RdrW rb r' l W) ∨ bv = false ∧ (∀ t, r ≠ 124 :: t) ∧ RdrW rb r l W))
  case first =>
   by_cases h : ∃ t, r = 124 :: t
   ·obtain ⟨t, rfl⟩ := h
    go_wp2_with fail
    refine Calls.mono (take_yes3 rb l 124 124 (by decide) t W2 HR2.out (by have := HLS.out.2; simp only [List.length_cons] at this; omega)) ?_
    rintro e W3 ⟨rfl, hr3, hb3⟩
    have HR3 := hid hr3
    have HB3 := hid hb3
    clear hr3 hb3
    go_wp2_with fail
    go_meet
    exact ⟨true, rfl, HB3, hid (.inl ⟨rfl, t, rfl, HR3.out⟩)⟩
   ·have HN : Hid (∀ t, r ≠ 124 :: t) := hid (fun t e => h ⟨t, e⟩)
    clear h
    go_wp2_with fail
    refine Calls.mono (take_no3 rb l 124 124 (by decide) r W2 HR2.out HN.out) ?_
    rintro e w' ⟨rfl, rfl⟩
    go_wp2_with fail
    go_meet
    exact ⟨false, rfl, hid (But.refl _ _), hid (.inr ⟨rfl, HN.out, HR2.out⟩)⟩
  case rest =>
   obtain ⟨bv, rfl, HBc, HV⟩ := hcut
   have HB3 : Hid (But rb w wc) := hid (HB2.out.trans HBc.out)
   have HBX3 : Hid (Box5 c wc) := hid (HBX2.out.but HBc.out HCR.out)
   go_upto_if 16 with fail
   go_cut [5] (fun v W => ∃ (kk : Int) (r' : Bs), v = .int .i64 kk ∧ Hid (But rb W2 W) ∧ Hid (RdrW rb r' l W) ∧ Hid (O = twoE kk ya (Ar.askP N l r') ∧ r'.length ≤ 2000))
   case first =>
    rcases HV.out with ⟨rfl, r', hr', hrd⟩ | ⟨rfl, hno, hrd⟩
    ·have HRD := hid hrd
     have HE2 : Hid (O = twoE 6 ya (Ar.askP N l r') ∧ r'.length ≤ 2000) := hid ⟨by rw [HOP.out, hr', twoR_or], by have := HLS.out.2; rw [hr'] at this; simp only [List.length_cons] at this; omega⟩
     clear hr' hrd HV
     go_wp2_with fail
     go_meet
     exact ⟨6, r', rfl, HBc, HRD, HE2⟩
    ·have HRD := hid hrd
     have HN := hid hno
     clear hno hrd HV
     by_cases h : ∃ t, r = 38 :: t
     ·obtain ⟨t, rfl⟩ := h
      have HE2 : Hid (O = twoE 5 ya (Ar.askP N l t) ∧ t.length ≤ 2000) := hid ⟨by rw [HOP.out, twoR_and], by have := HLS.out.2; simp only [List.length_cons] at this; omega⟩
      go_wp2_with fail
      refine Calls.mono (take_yes3 rb l 38 38 (by decide) t wc HRD.out (by have := HLS.out.2; simp only [List.length_cons] at this; omega)) ?_
      rintro e W3 ⟨rfl, hr3, hb3⟩
      have HR3 := hid hr3
      have HB4 := hid (HBc.out.trans hb3)
      clear hr3 hb3
      go_wp2_with fail
      go_meet
      exact ⟨5, t, rfl, HB4, HR3, HE2⟩
     ·have HN2 : Hid (∀ t, r ≠ 38 :: t) := hid (fun t e => h ⟨t, e⟩)
      have HP : Hid (O = none) := hid (by rw [HOP.out, twoR_no HN.out HN2.out])
      clear h
      go_wp2_with fail
      refine Calls.mono (take_no3 rb l 38 38 (by decide) r wc HRD.out HN2.out) ?_
      rintro e w' ⟨rfl, rfl⟩
      have r0 := HBX3.out.r0
      have r1 := HBX3.out.r1
      have r2 := HBX3.out.r2
      have r3 := HBX3.out.r3
      have r4 := HBX3.out.r4
      have q0 := HBX3.out.fz 0
      have q1 := HBX3.out.fz 1
      have q2 := HBX3.out.fz 2
      have q3 := HBX3.out.fz 3
      have q4 := HBX3.out.fz 4
      have hcl := HBX3.out.lt
      have hcl1 : c < wc.heap.size + 1 := Nat.lt_succ_of_lt hcl
      go_wp2_with fail
      refine bodyPost_ret (v := .tuple #[.agg #[.int .i64 0, .string ⟨#[]⟩, .string ⟨#[]⟩, .int .i64 0, .slice none 0 0], .bool false]) (by simp [results, Tryz.results93, go_sem, cell_set, r0, r1, r2, r3, r4, hcl, hcl1]) rfl ?_
      show AskQ rb w _ _ (five wc c (.int .i64 0) (.string ⟨#[]⟩) (.string ⟨#[]⟩) (.int .i64 0) (.slice none 0 0))
      rw [HP.out]
      exact ⟨five_but HB3.out (Nat.le_of_eq HC.out.symm) _ _ _ _ _, zero5, rfl, five_zero, r, l, by have := HLS.out.2; omega, HRD.out.five HCR.out _ _ _ _ _⟩
   case rest =>
    obtain ⟨kk, r', rfl, HBd, HRd, HE2⟩ := hcut
    go_wp2_with fail
    refine Calls.mono (HAA.out l r' wc (Nat.le_of_lt HLS.out.1) HE2.out.2 (fun W h => HEV.out W (HB2.out.trans (HBd.out.trans h))) HRd.out) ?_
    rintro e W4 hq
    obtain ⟨hb4, bvb, y0, y1, y2, y3, yd, yl, yc, rfl, hq4⟩ := hq.form
    have HQ4 := hid hq4
    have HB24 := hid (HBd.out.trans hb4)
    have HB4 := hid (HB2.out.trans (HBd.out.trans hb4))
    have HBX4 := hid (HBX2.out.but (HBd.out.trans hb4) HCR.out)
    have HSc := hid hb4.size
    clear hb4 hq hq4
    go_upto_region 10 with fail
    obtain ⟨W5, hW5⟩ : ∃ W, W = W4.alloc (.cells #[.int .i64 y0, .string y1, .string y2, .int .i64 y3, .slice yd yl yc] 26) := ⟨_, rfl⟩
    obtain ⟨db, hd⟩ : ∃ d, d = W4.heap.size := ⟨_, rfl⟩
    have HBX5 : Hid (Box5 c W5) := hid (by rw [hW5]; exact HBX4.out.but ((But.refl rb W4).alloc _) HCR.out)
    have bdb0 : W5.cell? ⟨db, 0, none⟩ = some (.int .i64 y0) := by rw [hW5]; exact (cell_top _ _ _ _ _ hd).trans rfl
    have bdb1 : W5.cell? ⟨db, 1, none⟩ = some (.string y1) := by rw [hW5]; exact (cell_top _ _ _ _ _ hd).trans rfl
    have bdb2 : W5.cell? ⟨db, 2, none⟩ = some (.string y2) := by rw [hW5]; exact (cell_top _ _ _ _ _ hd).trans rfl
    have bdb3 : W5.cell? ⟨db, 3, none⟩ = some (.int .i64 y3) := by rw [hW5]; exact (cell_top _ _ _ _ _ hd).trans rfl
    have bdb4 : W5.cell? ⟨db, 4, none⟩ = some (.slice yd yl yc) := by rw [hW5]; exact (cell_top _ _ _ _ _ hd).trans rfl
    have hdldb : db < W5.heap.size := by rw [hW5, hd]; simp
    rw [← hW5, ← hd]
    have HW5 := hid hW5
    have HDdb := hid hd
    clear hW5 hd
    have HB25 : Hid (But rb W2 W5) := hid (by rw [HW5.out]; exact HB24.out.alloc _)
    have HB5 : Hid (But rb w W5) := hid (HB2.out.trans HB25.out)
    have hdl5 : da < W5.heap.size := Nat.lt_of_lt_of_le hdlda HB25.out.size
    have HDX : Hid (∀ W, UpK rb c W5 W → W.cell? ⟨da, 0, none⟩ = some (.int .i64 x0) ∧ W.cell? ⟨da, 1, none⟩ = some (.string x1) ∧ W.cell? ⟨da, 2, none⟩ = some (.string x2) ∧ W.cell? ⟨da, 3, none⟩ = some (.int .i64 x3) ∧ W.cell? ⟨da, 4, none⟩ = some (.slice xd xl xc) ∧ W.cell? ⟨db, 0, none⟩ = some (.int .i64 y0) ∧ W.cell? ⟨db, 1, none⟩ = some (.string y1) ∧ W.cell? ⟨db, 2, none⟩ = some (.string y2) ∧ W.cell? ⟨db, 3, none⟩ = some (.int .i64 y3) ∧ W.cell? ⟨db, 4, none⟩ = some (.slice yd yl yc)) := hid (fun W h => by
     have ea : ∀ i, W.cell? ⟨da, i, none⟩ = W2.cell? ⟨da, i, none⟩ := fun i => (h.cell (p := ⟨da, i, none⟩) hdl5 HDA.out.1 HDA.out.2.1).trans (HB25.out.cell (p := ⟨da, i, none⟩) hdlda HDA.out.1)
     have hdb : db ≠ rb ∧ db ≠ c := by
      have h1 := HDdb.out
      have h2 := HBX4.out.lt
      have h3 := HRd.out.lt
      have h4 := HSc.out
      exact ⟨by omega, by omega⟩
     have eb : ∀ i, W.cell? ⟨db, i, none⟩ = W5.cell? ⟨db, i, none⟩ := fun i => h.cell (p := ⟨db, i, none⟩) hdldb hdb.1 hdb.2
     exact ⟨(ea 0).trans bda0, (ea 1).trans bda1, (ea 2).trans bda2, (ea 3).trans bda3, (ea 4).trans bda4, (eb 0).trans bdb0, (eb 1).trans bdb1, (eb 2).trans bdb2, (eb 3).trans bdb3, (eb 4).trans bdb4⟩)
    clear bda0 bda1 bda2 bda3 bda4 bdb0 bdb1 bdb2 bdb3 bdb4
    cases bvb with
    | false =>
     have r0 := HBX5.out.r0
     have r1 := HBX5.out.r1
     have r2 := HBX5.out.r2
     have r3 := HBX5.out.r3
     have r4 := HBX5.out.r4
     have q0 := HBX5.out.fz 0
     have q1 := HBX5.out.fz 1
     have q2 := HBX5.out.fz 2
     have q3 := HBX5.out.fz 3
     have q4 := HBX5.out.fz 4
     have hcl := HBX5.out.lt
     have hcl1 : c < W5.heap.size + 1 := Nat.lt_succ_of_lt hcl
     refine wp_region_held_drew (S := fun W => UpK rb c W5 W) (by kernel_rfl) (UpK.refl.drew) (fun hHeld => ?_)
     refine wpAnyH_take (i := 0) (v := ?vb1b0x1) rfl (by kernel_rfl) (by kernel_rfl) (by kernel_rfl) (fun _ _ _ h => h) (Or.inl ⟨by rfl, ?hyb1b0x1⟩) (by assumption) ?restb1b0x1
     case hyb1b0x1 =>
      intro w hSw
      (try dsimp only at hSw)
      go_simp
      (try with_reducible rfl)
     change wpAnyH _ _ _ _ _ _ _ (Act.put _ (some 26) _) _
     try simp only [Act.put, qa1, qa2, qa3]
     refine wpAnyH_take (i := 1) (v := ?vb1b1x2) rfl (by kernel_rfl) (by kernel_rfl) (by kernel_rfl) (fun _ _ _ h => h) (Or.inl ⟨by rfl, ?hyb1b1x2⟩) (by assumption) ?restb1b1x2
     case hyb1b1x2 =>
      intro w hSw
      (try dsimp only at hSw)
      obtain ⟨ga0, ga1, ga2, ga3, ga4, gb0, gb1, gb2, gb3, gb4⟩ := HDX.out w hSw
      go_simp
      (try with_reducible rfl)
     change wpAnyH _ _ _ _ _ _ _ (Act.put _ (some 27) _) _
     try simp only [Act.put, qa1, qa2, qa3]
     refine wpAnyH_take (i := 2) (v := ?vb1b2x3) rfl (by kernel_rfl) (by kernel_rfl) (by kernel_rfl) (fun _ _ _ h => h) (Or.inl ⟨by rfl, ?hyb1b2x3⟩) (by assumption) ?restb1b2x3
     case hyb1b2x3 =>
      intro w hSw
      (try dsimp only at hSw)
      obtain ⟨ga0, ga1, ga2, ga3, ga4, gb0, gb1, gb2, gb3, gb4⟩ := HDX.out w hSw
      go_simp
      (try with_reducible rfl)
     change wpAnyH _ _ _ _ _ _ _ (Act.put _ (some 28) _) _
     try simp only [Act.put, qa1, qa2, qa3]
     refine wpAnyH_take (i := 5) (v := ?vb1b5x4) rfl (by kernel_rfl) (by kernel_rfl) (by kernel_rfl) (fun _ _ _ h => h) (Or.inl ⟨by rfl, ?hyb1b5x4⟩) (by assumption) ?restb1b5x4
     case hyb1b5x4 =>
      intro w hSw
      (try dsimp only at hSw)
      go_simp
      (try with_reducible rfl)
     change wpAnyH _ _ _ _ _ _ _ (Act.put _ (some 31) _) _
     try simp only [Act.put, qa1, qa2, qa3]
     refine wpAnyH_take (i := 6) (v := ?vb1b6x5) rfl (by kernel_rfl) (by kernel_rfl) (by kernel_rfl) (fun _ _ _ h => h) (Or.inl ⟨by rfl, ?hyb1b6x5⟩) (by assumption) ?restb1b6x5
     case hyb1b6x5 =>
      intro w hSw
      (try dsimp only at hSw)
      go_simp
      (try with_reducible rfl)
     change wpAnyH _ _ _ _ _ _ _ (Act.put _ (some 32) _) _
     try simp only [Act.put, qa1, qa2, qa3]
     refine wpAnyH_take (i := 7) (v := undef) rfl (by kernel_rfl) (by kernel_rfl) (by kernel_rfl) (fun _ _ _ h => h) (Or.inr ⟨by rfl, rfl⟩) (by assumption) ?_
     change wpAnyH _ _ _ _ _ _ _ (Act.put _ (some 33) _) _
     try simp only [Act.put, qa1, qa2, qa3]
     refine wpAnyH_take (i := 8) (v := undef) rfl (by kernel_rfl) (by kernel_rfl) (by kernel_rfl) (fun _ _ _ h => h) (Or.inr ⟨by rfl, rfl⟩) (by assumption) ?_
     change wpAnyH _ _ _ _ _ _ _ (Act.put _ (some 34) _) _
     try simp only [Act.put, qa1, qa2, qa3]
     refine wpAnyH_take (i := 9) (v := ?vb1b9x6) rfl (by kernel_rfl) (by kernel_rfl) (by kernel_rfl) (fun _ _ _ h => h) (Or.inl ⟨by rfl, ?hyb1b9x6⟩) (by assumption) ?restb1b9x6
     case hyb1b9x6 =>
      intro w hSw
      (try dsimp only at hSw)
      go_simp
      (try with_reducible rfl)
     change wpAnyH _ _ _ _ _ _ _ (Act.put _ (some 35) _) _
     try simp only [Act.put, qa1, qa2, qa3]
     refine wpAnyH_ready (rs := [3]) (by kernel_rfl) (by simp) ?_
     refine AllReadyH.cons rfl (fun K hK => ?_) AllReadyH.nil
     go_simp
     (try go_wp2_with fail)
     refine hK.out _ _ (by repeat (first | exact hHeld | exact UpK.refl | refine UpK.setC _ _ ?_ | refine UpK.setR _ _ ?_ | refine UpK.alloc _ ?_ | refine UpK.drew ?_)) (fun hHeld => ?_)
     clear hK K
     try simp only [Act.put, qa1, qa2, qa3]
     generalize hW6 : (W5.alloc (.cells #[.int .i64 x0, .string x1, .string x2, .int .i64 x3, .slice xd xl xc, .int .i64 y0, .string y1, .string y2, .int .i64 y3, .slice yd yl yc] 26)).drew = W6 at hHeld ⊢
     have HW6 := hid hW6
     have HBX6 : Hid (Box5 c W6) := hid (by rw [← hW6]; exact HBX5.out.but ((But.refl rb W5).alloc _).drew HCR.out)
     clear hW6 r0 r1 r2 r3 r4 q0 q1 q2 q3 q4 hcl hcl1
     have r0 := HBX6.out.r0
     have r1 := HBX6.out.r1
     have r2 := HBX6.out.r2
     have r3 := HBX6.out.r3
     have r4 := HBX6.out.r4
     have q0 := HBX6.out.fz 0
     have q1 := HBX6.out.fz 1
     have q2 := HBX6.out.fz 2
     have q3 := HBX6.out.fz 3
     have q4 := HBX6.out.fz 4
     have hcl := HBX6.out.lt
     refine wpAnyH_take (i := 4) (v := ?vb1b4x7) rfl (by kernel_rfl) (by kernel_rfl) (by kernel_rfl) (fun _ _ _ h => h) (Or.inl ⟨by rfl, ?hyb1b4x7⟩) (by assumption) ?restb1b4x7
     case hyb1b4x7 =>
      intro w hSw
      (try dsimp only at hSw)
      go_simp
      (try with_reducible rfl)
     change wpAnyH _ _ _ _ _ _ _ (Act.put _ (some 30) _) _
     try simp only [Act.put, qa1, qa2, qa3]
     refine wpAnyH_ready (rs := [10]) (by kernel_rfl) (by simp) ?_
     refine AllReadyH.cons rfl (fun K hK => ?_) AllReadyH.nil
     go_simp
     (try go_wp2_with fail)
     refine hK.out _ _ (by repeat (first | exact hHeld | exact UpK.refl | refine UpK.setC _ _ ?_ | refine UpK.setR _ _ ?_ | refine UpK.alloc _ ?_ | refine UpK.drew ?_)) (fun hHeld => ?_)
     clear hK K
     try simp only [Act.put, qa1, qa2, qa3]
     refine wpAnyH_take (i := 11) (v := ?vb1b11x8) rfl (by kernel_rfl) (by kernel_rfl) (by kernel_rfl) (fun _ _ _ h => h) (Or.inl ⟨by rfl, ?hyb1b11x8⟩) (by assumption) ?restb1b11x8
     case hyb1b11x8 =>
      intro w hSw
      (try dsimp only at hSw)
      go_simp
      (try with_reducible rfl)
     change wpAnyH _ _ _ _ _ _ _ (Act.put _ (some 3) _) _
     try simp only [Act.put, qa1, qa2, qa3]
     refine wpAnyH_done (by kernel_rfl) ?_ _
     go_wp2_with fail
     refine bodyPost_ret (v := .tuple #[.agg #[.int .i64 kk, .string ⟨#[]⟩, .string ⟨#[]⟩, .int .i64 0, .slice (some ⟨W5.heap.size, 0, none⟩) 2 2], .bool false]) (by simp [results, Tryz.results93, go_sem, cell_set, r0, r1, r2, r3, r4, hcl]) rfl ?_
     show AskQ rb w _ _ (five W6 c (.int .i64 kk) (.string ⟨#[]⟩) (.string ⟨#[]⟩) (.int .i64 0) (.slice (some ⟨W5.heap.size, 0, none⟩) 2 2))
     have hq4 := HQ4.out
     cases hp : Ar.askP N l r' with
     | some p => obtain ⟨yb, r2, l2⟩ := p; rw [hp] at hq4; cases hq4.1
     | none =>
      rw [hp] at hq4
      obtain ⟨_, r2, l2, g1, g2⟩ := hq4
      have hP : O = none := by rw [HE2.out.1, hp]; rfl
      rw [hP]
      have g3 : RdrW rb r2 l2 W6 := by rw [← HW6.out, HW5.out]; exact ((g2.alloc _).alloc _).drew
      have hbt : But rb w W6 := by rw [← HW6.out]; exact (HB5.out.alloc _).drew
      exact ⟨five_but hbt (Nat.le_of_eq HC.out.symm) _ _ _ _ _, _, rfl, ⟨_, _, _, _, _, _, _, rfl⟩, r2, l2, g1, g3.five HCR.out _ _ _ _ _⟩
    | true =>
     have hq4 := HQ4.out
     cases hp : Ar.askP N l r' with
     | none => rw [hp] at hq4; obtain ⟨h, _⟩ := hq4; cases h
     | some p =>
      obtain ⟨yb, ru, l2⟩ := p
      rw [hp] at hq4
      obtain ⟨_, hvb, hr4⟩ := hq4
      have HVB : Hid (AskVP (fun b => wc.heap.size ≤ b ∧ b < W4.heap.size) W5 yb (.agg #[.int .i64 y0, .string y1, .string y2, .int .i64 y3, .slice yd yl yc])) := hid (AskVP.both hvb (by rw [HW5.out]; simp) (fun b _ hb => by rw [HW5.out]; exact Below.heap_alloc _ _ _ hb))
      have HVA5 : Hid (AskVP (fun b => W0.heap.size ≤ b ∧ b < W1.heap.size) W5 ya (.agg #[.int .i64 x0, .string x1, .string x2, .int .i64 x3, .slice xd xl xc])) := hid (AskVP.stays (fun b h => h) HB25.out.size (fun b h hb => HB25.out.block b hb (by have := HR0.out.lt; omega)) _ _ HVA.out)
      have HR5 : Hid (RdrW rb ru l2 W5) := hid (by rw [HW5.out]; exact hr4.alloc _)
      have HRL : Hid (ru.length ≤ 2000) := hid (by have := (Ar.askP_less N l r' yb ru l2 hp).2.1; have := HE2.out.2; omega)
      have HOE : Hid (O = twoE kk ya (some (yb, ru, l2))) := hid (by rw [HE2.out.1, hp])
      have HPA : Hid (∀ b, W0.heap.size ≤ b ∧ b < W1.heap.size → w.heap.size ≤ b ∧ b ≠ rb ∧ b ≠ c) := hid (fun b h => by have h1 := HB0.out.size; have h2 := HR0.out.lt; have h3 := HBX0.out.lt; omega)
      have HPB : Hid (∀ b, wc.heap.size ≤ b ∧ b < W4.heap.size → w.heap.size ≤ b ∧ b ≠ rb ∧ b ≠ c) := hid (fun b h => by have h1 := HB2.out.size; have h1b := HBd.out.size; have h2 := HRd.out.lt; have h3 := HBX2.out.lt; omega)
      clear hvb hr4 hp
      have r0 := HBX5.out.r0
      have r1 := HBX5.out.r1
      have r2 := HBX5.out.r2
      have r3 := HBX5.out.r3
      have r4 := HBX5.out.r4
      have q0 := HBX5.out.fz 0
      have q1 := HBX5.out.fz 1
      have q2 := HBX5.out.fz 2
      have q3 := HBX5.out.fz 3
      have q4 := HBX5.out.fz 4
      have hcl := HBX5.out.lt
      by_cases h41 : ∃ t, ru = 41 :: t
      ·obtain ⟨t, rfl⟩ := h41
       have HP : Hid (O = some (.mk kk [] [] 0 [ya, yb], t, l2)) := hid HOE.out
       refine wp_region_held_drew (S := fun W => UpK rb c W5 W) (by kernel_rfl) (UpK.refl.drew) (fun hHeld => ?_)
       refine wpAnyH_take (i := 0) (v := ?vb2b0x1) rfl (by kernel_rfl) (by kernel_rfl) (by kernel_rfl) (fun _ _ _ h => h) (Or.inl ⟨by rfl, ?hyb2b0x1⟩) (by assumption) ?restb2b0x1
       case hyb2b0x1 =>
        intro w hSw
        (try dsimp only at hSw)
        go_simp
        (try with_reducible rfl)
       change wpAnyH _ _ _ _ _ _ _ (Act.put _ (some 26) _) _
       try simp only [Act.put, qa1, qa2, qa3]
       refine wpAnyH_take (i := 1) (v := ?vb2b1x2) rfl (by kernel_rfl) (by kernel_rfl) (by kernel_rfl) (fun _ _ _ h => h) (Or.inl ⟨by rfl, ?hyb2b1x2⟩) (by assumption) ?restb2b1x2
       case hyb2b1x2 =>
        intro w hSw
        (try dsimp only at hSw)
        obtain ⟨ga0, ga1, ga2, ga3, ga4, gb0, gb1, gb2, gb3, gb4⟩ := HDX.out w hSw
        go_simp
        (try with_reducible rfl)
       change wpAnyH _ _ _ _ _ _ _ (Act.put _ (some 27) _) _
       try simp only [Act.put, qa1, qa2, qa3]
       refine wpAnyH_take (i := 2) (v := ?vb2b2x3) rfl (by kernel_rfl) (by kernel_rfl) (by kernel_rfl) (fun _ _ _ h => h) (Or.inl ⟨by rfl, ?hyb2b2x3⟩) (by assumption) ?restb2b2x3
       case hyb2b2x3 =>
        intro w hSw
        (try dsimp only at hSw)
        obtain ⟨ga0, ga1, ga2, ga3, ga4, gb0, gb1, gb2, gb3, gb4⟩ := HDX.out w hSw
        go_simp
        (try with_reducible rfl)
       change wpAnyH _ _ _ _ _ _ _ (Act.put _ (some 28) _) _
       try simp only [Act.put, qa1, qa2, qa3]
       refine wpAnyH_take (i := 5) (v := ?vb2b5x4) rfl (by kernel_rfl) (by kernel_rfl) (by kernel_rfl) (fun _ _ _ h => h) (Or.inl ⟨by rfl, ?hyb2b5x4⟩) (by assumption) ?restb2b5x4
       case hyb2b5x4 =>
        intro w hSw
        (try dsimp only at hSw)
        go_simp
        (try with_reducible rfl)
       change wpAnyH _ _ _ _ _ _ _ (Act.put _ (some 31) _) _
       try simp only [Act.put, qa1, qa2, qa3]
       refine wpAnyH_take (i := 6) (v := ?vb2b6x5) rfl (by kernel_rfl) (by kernel_rfl) (by kernel_rfl) (fun _ _ _ h => h) (Or.inl ⟨by rfl, ?hyb2b6x5⟩) (by assumption) ?restb2b6x5
       case hyb2b6x5 =>
        intro w hSw
        (try dsimp only at hSw)
        go_simp
        (try with_reducible rfl)
       change wpAnyH _ _ _ _ _ _ _ (Act.put _ (some 32) _) _
       try simp only [Act.put, qa1, qa2, qa3]
       refine wpAnyH_take (i := 7) (v := ?vb2b7x6) rfl (by kernel_rfl) (by kernel_rfl) (by kernel_rfl) (fun _ _ _ h => h) (Or.inl ⟨by rfl, ?hyb2b7x6⟩) (by assumption) ?restb2b7x6
       case hyb2b7x6 =>
        intro w hSw
        (try dsimp only at hSw)
        go_simp
        (try with_reducible rfl)
       change wpAnyH _ _ _ _ _ _ _ (Act.put _ (some 33) _) _
       try simp only [Act.put, qa1, qa2, qa3]
       refine wpAnyH_ready (rs := [3, 8]) (by kernel_rfl) (by simp) ?_
       refine AllReadyH.cons rfl (fun K hK => ?_) (AllReadyH.cons rfl (fun K hK => ?_) AllReadyH.nil)
       ·go_simp
        (try go_wp2_with fail)
        refine hK.out _ _ (by repeat (first | exact hHeld | exact UpK.refl | refine UpK.setC _ _ ?_ | refine UpK.setR _ _ ?_ | refine UpK.alloc _ ?_ | refine UpK.drew ?_)) (fun hHeld => ?_)
        clear hK K
        try simp only [Act.put, qa1, qa2, qa3]
        have HR6x : RdrW rb (41 :: t) l2 ((W5.alloc (.cells #[.int .i64 x0, .string x1, .string x2, .int .i64 x3, .slice xd xl xc, .int .i64 y0, .string y1, .string y2, .int .i64 y3, .slice yd yl yc] 26)).drew) := (HR5.out.alloc _).drew
        have HR6y : RdrW rb (41 :: t) l2 (W5.drew.alloc (.cells #[.int .i64 x0, .string x1, .string x2, .int .i64 x3, .slice xd xl xc, .int .i64 y0, .string y1, .string y2, .int .i64 y3, .slice yd yl yc] 26)) := HR5.out.drew.alloc _
        first
         | generalize hWn : (W5.alloc (.cells #[.int .i64 x0, .string x1, .string x2, .int .i64 x3, .slice xd xl xc, .int .i64 y0, .string y1, .string y2, .int .i64 y3, .slice yd yl yc] 26)).drew = W6 at hHeld HR6x ⊢
         | generalize hWn : W5.drew.alloc (.cells #[.int .i64 x0, .string x1, .string x2, .int .i64 x3, .slice xd xl xc, .int .i64 y0, .string y1, .string y2, .int .i64 y3, .slice yd yl yc] 26) = W6 at hHeld HR6y ⊢
        have HBTW6 : Hid (But rb W5 W6) := hid (by rw [← hWn]; first | exact ((But.refl rb W5).alloc _).drew | exact ((But.refl rb W5).drew).alloc _ | exact (But.refl rb W5).alloc _)
        have HCEW6 : Hid (∀ i, W6.cell? ⟨W5.heap.size, i, none⟩ = (#[.int .i64 x0, .string x1, .string x2, .int .i64 x3, .slice xd xl xc, .int .i64 y0, .string y1, .string y2, .int .i64 y3, .slice yd yl yc] : Array Value)[i]?) := hid (fun i => by rw [← hWn]; first | exact cell_top W5 _ _ _ i rfl | exact cell_top W5.drew _ _ _ i rfl)
        have HSZW6 : Hid (W5.heap.size < W6.heap.size) := hid (by rw [← hWn]; simp)
        clear hWn
        have HR6 : Hid (RdrW rb (41 :: t) l2 W6) := hid (by first | exact HR6x | exact HR6y)
        clear HR6x HR6y
        have HU6 := hid hHeld
        have HBXW6 : Hid (Box5 c W6) := hid (HBX5.out.but HBTW6.out HCR.out)
        (try clear r0 r1 r2 r3 r4 q0 q1 q2 q3 q4 hcl)
        have r0 := HBXW6.out.r0
        have r1 := HBXW6.out.r1
        have r2 := HBXW6.out.r2
        have r3 := HBXW6.out.r3
        have r4 := HBXW6.out.r4
        have q0 := HBXW6.out.fz 0
        have q1 := HBXW6.out.fz 1
        have q2 := HBXW6.out.fz 2
        have q3 := HBXW6.out.fz 3
        have q4 := HBXW6.out.fz 4
        have hcl := HBXW6.out.lt
        refine wpAnyH_take (i := 4) (v := ?vb3b4x101) rfl (by kernel_rfl) (by kernel_rfl) (by kernel_rfl) (fun _ _ _ h => h) (Or.inl ⟨by rfl, ?hyb3b4x101⟩) (by assumption) ?restb3b4x101
        case hyb3b4x101 =>
         intro w hSw
         (try dsimp only at hSw)
         go_simp
         (try with_reducible rfl)
        change wpAnyH _ _ _ _ _ _ _ (Act.put _ (some 30) _) _
        try simp only [Act.put, qa1, qa2, qa3]
        refine wpAnyH_ready (rs := [8]) (by kernel_rfl) (by simp) ?_
        refine AllReadyH.cons rfl (fun K hK => ?_) AllReadyH.nil
        go_simp
        go_at_call 91
        refine Calls.mono (take_yes3 rb l2 41 41 (by decide) t W6 HR6.out (by have := HRL.out; simp only [List.length_cons] at this; omega)) ?_
        rintro e W7 ⟨rfl, hrn, hbn⟩
        have HRW7 := hid hrn
        have HBnW7 := hid hbn
        clear hrn hbn
        have HU7 : Hid (UpK rb c W5 W7) := hid (HU6.out.but HBnW7.out)
        (try go_wp2_with fail)
        refine hK.out _ _ (HU7.out) (fun hHeld => ?_)
        clear hK K
        try simp only [Act.put, qa1, qa2, qa3]
        refine wpAnyH_take (i := 9) (v := ?vb3b9x102) rfl (by kernel_rfl) (by kernel_rfl) (by kernel_rfl) (fun _ _ _ h => h) (Or.inl ⟨by rfl, ?hyb3b9x102⟩) (by assumption) ?restb3b9x102
        case hyb3b9x102 =>
         intro w hSw
         (try dsimp only at hSw)
         go_simp
         (try with_reducible rfl)
        change wpAnyH _ _ _ _ _ _ _ (Act.put _ (some 35) _) _
        try simp only [Act.put, qa1, qa2, qa3]
        have HBXW7 : Hid (Box5 c W7) := hid (HBXW6.out.but HBnW7.out HCR.out)
        (try clear r0 r1 r2 r3 r4 q0 q1 q2 q3 q4 hcl)
        have r0 := HBXW7.out.r0
        have r1 := HBXW7.out.r1
        have r2 := HBXW7.out.r2
        have r3 := HBXW7.out.r3
        have r4 := HBXW7.out.r4
        have q0 := HBXW7.out.fz 0
        have q1 := HBXW7.out.fz 1
        have q2 := HBXW7.out.fz 2
        have q3 := HBXW7.out.fz 3
        have q4 := HBXW7.out.fz 4
        have hcl := HBXW7.out.lt
        refine wpAnyH_ready (rs := [10]) (by kernel_rfl) (by simp) ?_
        refine AllReadyH.cons rfl (fun K hK => ?_) AllReadyH.nil
        go_simp
        (try go_wp2_with fail)
        refine hK.out _ _ (by repeat (first | exact hHeld | exact UpK.refl | exact HU7.out | exact HU6.out | refine UpK.setC _ _ ?_ | refine UpK.setR _ _ ?_ | refine UpK.alloc _ ?_ | refine UpK.drew ?_)) (fun hHeld => ?_)
        clear hK K
        try simp only [Act.put, qa1, qa2, qa3]
        refine wpAnyH_take (i := 11) (v := ?vb3b11x103) rfl (by kernel_rfl) (by kernel_rfl) (by kernel_rfl) (fun _ _ _ h => h) (Or.inl ⟨by rfl, ?hyb3b11x103⟩) (by assumption) ?restb3b11x103
        case hyb3b11x103 =>
         intro w hSw
         (try dsimp only at hSw)
         go_simp
         (try with_reducible rfl)
        change wpAnyH _ _ _ _ _ _ _ (Act.put _ (some 3) _) _
        try simp only [Act.put, qa1, qa2, qa3]
        refine wpAnyH_done (by kernel_rfl) ?_ _
        have HGB : Hid (w.heap.size ≤ W5.heap.size ∧ W5.heap.size ≠ c) := hid ⟨HB5.out.size, by have := HBX5.out.lt; omega⟩
        have HGL : Hid (W5.heap.size < W7.heap.size) := hid (Nat.lt_of_lt_of_le HSZW6.out HBnW7.out.size)
        have HCL : Hid (∀ i, W7.cell? ⟨W5.heap.size, i, none⟩ = _) := hid (fun i => (HBnW7.out.cell (p := ⟨W5.heap.size, i, none⟩) HSZW6.out (by have := HR5.out.lt; show W5.heap.size ≠ rb; omega)).trans (HCEW6.out i))
        go_wp2_with fail
        refine bodyPost_ret (v := .tuple #[.agg #[.int .i64 kk, .string ⟨#[]⟩, .string ⟨#[]⟩, .int .i64 0, .slice (some ⟨W5.heap.size, 0, none⟩) 2 2], .bool true]) (by simp [results, Tryz.results93, go_sem, cell_set, r0, r1, r2, r3, r4, hcl]) rfl ?_
        show AskQ rb w _ _ (five W7 c (.int .i64 kk) (.string ⟨#[]⟩) (.string ⟨#[]⟩) (.int .i64 0) (.slice (some ⟨W5.heap.size, 0, none⟩) 2 2))
        rw [HP.out]
        exact ⟨five_but (HB5.out.trans (HBTW6.out.trans HBnW7.out)) (Nat.le_of_eq HC.out.symm) _ _ _ _ _, _, rfl, ⟨_, _, _, _, _, _, _, rfl⟩, tree_two (HU7.out) HGL.out HGB.out.1 HGB.out.2 HCL.out HVA5.out (fun b h => HPA.out b h) HVB.out (fun b h => HPB.out b h) _ _ _ _ _, (HRW7.out).five HCR.out _ _ _ _ _⟩
       ·go_simp
        go_at_call 91
        refine Calls.mono (take_yes3 rb l2 41 41 (by decide) t W5.drew HR5.out.drew (by have := HRL.out; simp only [List.length_cons] at this; omega)) ?_
        rintro e W6 ⟨rfl, hrn, hbn⟩
        have HRW6 := hid hrn
        have HBnW6 := hid hbn
        clear hrn hbn
        have HU6 : Hid (UpK rb c W5 W6) := hid (UpK.refl.drew.but HBnW6.out)
        (try go_wp2_with fail)
        refine hK.out _ _ (HU6.out) (fun hHeld => ?_)
        clear hK K
        try simp only [Act.put, qa1, qa2, qa3]
        refine wpAnyH_take (i := 9) (v := ?vb4b9x201) rfl (by kernel_rfl) (by kernel_rfl) (by kernel_rfl) (fun _ _ _ h => h) (Or.inl ⟨by rfl, ?hyb4b9x201⟩) (by assumption) ?restb4b9x201
        case hyb4b9x201 =>
         intro w hSw
         (try dsimp only at hSw)
         go_simp
         (try with_reducible rfl)
        change wpAnyH _ _ _ _ _ _ _ (Act.put _ (some 35) _) _
        try simp only [Act.put, qa1, qa2, qa3]
        have HBXW6 : Hid (Box5 c W6) := hid ((HBX5.out.but (But.refl rb W5).drew HCR.out).but HBnW6.out HCR.out)
        (try clear r0 r1 r2 r3 r4 q0 q1 q2 q3 q4 hcl)
        have r0 := HBXW6.out.r0
        have r1 := HBXW6.out.r1
        have r2 := HBXW6.out.r2
        have r3 := HBXW6.out.r3
        have r4 := HBXW6.out.r4
        have q0 := HBXW6.out.fz 0
        have q1 := HBXW6.out.fz 1
        have q2 := HBXW6.out.fz 2
        have q3 := HBXW6.out.fz 3
        have q4 := HBXW6.out.fz 4
        have hcl := HBXW6.out.lt
        refine wpAnyH_ready (rs := [3]) (by kernel_rfl) (by simp) ?_
        refine AllReadyH.cons rfl (fun K hK => ?_) AllReadyH.nil
        go_simp
        (try go_wp2_with fail)
        refine hK.out _ _ (by repeat (first | exact hHeld | exact UpK.refl | exact HU7.out | exact HU6.out | refine UpK.setC _ _ ?_ | refine UpK.setR _ _ ?_ | refine UpK.alloc _ ?_ | refine UpK.drew ?_)) (fun hHeld => ?_)
        clear hK K
        try simp only [Act.put, qa1, qa2, qa3]
        have HR7a : RdrW rb t l2 ((W6.alloc (.cells #[.int .i64 x0, .string x1, .string x2, .int .i64 x3, .slice xd xl xc, .int .i64 y0, .string y1, .string y2, .int .i64 y3, .slice yd yl yc] 26)).drew) := (HRW6.out.alloc _).drew
        have HR7b : RdrW rb t l2 (W6.drew.alloc (.cells #[.int .i64 x0, .string x1, .string x2, .int .i64 x3, .slice xd xl xc, .int .i64 y0, .string y1, .string y2, .int .i64 y3, .slice yd yl yc] 26)) := HRW6.out.drew.alloc _
        have HR7c : RdrW rb t l2 (W6.alloc (.cells #[.int .i64 x0, .string x1, .string x2, .int .i64 x3, .slice xd xl xc, .int .i64 y0, .string y1, .string y2, .int .i64 y3, .slice yd yl yc] 26)) := HRW6.out.alloc _
        generalize hWn : W6.alloc (.cells #[.int .i64 x0, .string x1, .string x2, .int .i64 x3, .slice xd xl xc, .int .i64 y0, .string y1, .string y2, .int .i64 y3, .slice yd yl yc] 26) = W7 at hHeld HR7c ⊢
        have HBTW7 : Hid (But rb W6 W7) := hid (by rw [← hWn]; first | exact ((But.refl rb W6).alloc _).drew | exact ((But.refl rb W6).drew).alloc _ | exact (But.refl rb W6).alloc _)
        have HCEW7 : Hid (∀ i, W7.cell? ⟨W6.heap.size, i, none⟩ = (#[.int .i64 x0, .string x1, .string x2, .int .i64 x3, .slice xd xl xc, .int .i64 y0, .string y1, .string y2, .int .i64 y3, .slice yd yl yc] : Array Value)[i]?) := hid (fun i => by rw [← hWn]; first | exact cell_top W6 _ _ _ i rfl | exact cell_top W6.drew _ _ _ i rfl)
        have HSZW7 : Hid (W6.heap.size < W7.heap.size) := hid (by rw [← hWn]; simp)
        clear hWn
        have HR7 : Hid (RdrW rb t l2 W7) := hid HR7c
        clear HR7a HR7b HR7c
        have HU7 := hid hHeld
        have HBXW7 : Hid (Box5 c W7) := hid (HBXW6.out.but HBTW7.out HCR.out)
        (try clear r0 r1 r2 r3 r4 q0 q1 q2 q3 q4 hcl)
        have r0 := HBXW7.out.r0
        have r1 := HBXW7.out.r1
        have r2 := HBXW7.out.r2
        have r3 := HBXW7.out.r3
        have r4 := HBXW7.out.r4
        have q0 := HBXW7.out.fz 0
        have q1 := HBXW7.out.fz 1
        have q2 := HBXW7.out.fz 2
        have q3 := HBXW7.out.fz 3
        have q4 := HBXW7.out.fz 4
        have hcl := HBXW7.out.lt
        refine wpAnyH_take (i := 4) (v := ?vb4b4x202) rfl (by kernel_rfl) (by kernel_rfl) (by kernel_rfl) (fun _ _ _ h => h) (Or.inl ⟨by rfl, ?hyb4b4x202⟩) (by assumption) ?restb4b4x202
        case hyb4b4x202 =>
         intro w hSw
         (try dsimp only at hSw)
         go_simp
         (try with_reducible rfl)
        change wpAnyH _ _ _ _ _ _ _ (Act.put _ (some 30) _) _
        try simp only [Act.put, qa1, qa2, qa3]
        refine wpAnyH_ready (rs := [10]) (by kernel_rfl) (by simp) ?_
        refine AllReadyH.cons rfl (fun K hK => ?_) AllReadyH.nil
        go_simp
        (try go_wp2_with fail)
        refine hK.out _ _ (by repeat (first | exact hHeld | exact UpK.refl | exact HU7.out | exact HU6.out | refine UpK.setC _ _ ?_ | refine UpK.setR _ _ ?_ | refine UpK.alloc _ ?_ | refine UpK.drew ?_)) (fun hHeld => ?_)
        clear hK K
        try simp only [Act.put, qa1, qa2, qa3]
        refine wpAnyH_take (i := 11) (v := ?vb4b11x203) rfl (by kernel_rfl) (by kernel_rfl) (by kernel_rfl) (fun _ _ _ h => h) (Or.inl ⟨by rfl, ?hyb4b11x203⟩) (by assumption) ?restb4b11x203
        case hyb4b11x203 =>
         intro w hSw
         (try dsimp only at hSw)
         go_simp
         (try with_reducible rfl)
        change wpAnyH _ _ _ _ _ _ _ (Act.put _ (some 3) _) _
        try simp only [Act.put, qa1, qa2, qa3]
        refine wpAnyH_done (by kernel_rfl) ?_ _
        have HGB : Hid (w.heap.size ≤ W6.heap.size ∧ W6.heap.size ≠ c) := hid ⟨Nat.le_trans HB5.out.size HBnW6.out.size, by have := HBXW6.out.lt; omega⟩
        have HGL : Hid (W6.heap.size < W7.heap.size) := HSZW7
        have HCL := HCEW7
        go_wp2_with fail
        refine bodyPost_ret (v := .tuple #[.agg #[.int .i64 kk, .string ⟨#[]⟩, .string ⟨#[]⟩, .int .i64 0, .slice (some ⟨W6.heap.size, 0, none⟩) 2 2], .bool true]) (by simp [results, Tryz.results93, go_sem, cell_set, r0, r1, r2, r3, r4, hcl]) rfl ?_
        show AskQ rb w _ _ (five W7 c (.int .i64 kk) (.string ⟨#[]⟩) (.string ⟨#[]⟩) (.int .i64 0) (.slice (some ⟨W6.heap.size, 0, none⟩) 2 2))
        rw [HP.out]
        exact ⟨five_but (HB5.out.trans ((But.refl rb W5).drew.trans (HBnW6.out.trans HBTW7.out))) (Nat.le_of_eq HC.out.symm) _ _ _ _ _, _, rfl, ⟨_, _, _, _, _, _, _, rfl⟩, tree_two (HU7.out) HGL.out HGB.out.1 HGB.out.2 HCL.out HVA5.out (fun b h => HPA.out b h) HVB.out (fun b h => HPB.out b h) _ _ _ _ _, (HR7.out).five HCR.out _ _ _ _ _⟩
      ·have HN41 : Hid (∀ t, ru ≠ 41 :: t) := hid (fun t e => h41 ⟨t, e⟩)
       have HP : Hid (O = none) := hid (HOE.out.trans (twoE_no HN41.out))
       clear h41
       refine wp_region_held_drew (S := fun W => UpK rb c W5 W) (by kernel_rfl) (UpK.refl.drew) (fun hHeld => ?_)
       refine wpAnyH_take (i := 0) (v := ?vb5b0x51) rfl (by kernel_rfl) (by kernel_rfl) (by kernel_rfl) (fun _ _ _ h => h) (Or.inl ⟨by rfl, ?hyb5b0x51⟩) (by assumption) ?restb5b0x51
       case hyb5b0x51 =>
        intro w hSw
        (try dsimp only at hSw)
        go_simp
        (try with_reducible rfl)
       change wpAnyH _ _ _ _ _ _ _ (Act.put _ (some 26) _) _
       try simp only [Act.put, qa1, qa2, qa3]
       refine wpAnyH_take (i := 1) (v := ?vb5b1x52) rfl (by kernel_rfl) (by kernel_rfl) (by kernel_rfl) (fun _ _ _ h => h) (Or.inl ⟨by rfl, ?hyb5b1x52⟩) (by assumption) ?restb5b1x52
       case hyb5b1x52 =>
        intro w hSw
        (try dsimp only at hSw)
        obtain ⟨ga0, ga1, ga2, ga3, ga4, gb0, gb1, gb2, gb3, gb4⟩ := HDX.out w hSw
        go_simp
        (try with_reducible rfl)
       change wpAnyH _ _ _ _ _ _ _ (Act.put _ (some 27) _) _
       try simp only [Act.put, qa1, qa2, qa3]
       refine wpAnyH_take (i := 2) (v := ?vb5b2x53) rfl (by kernel_rfl) (by kernel_rfl) (by kernel_rfl) (fun _ _ _ h => h) (Or.inl ⟨by rfl, ?hyb5b2x53⟩) (by assumption) ?restb5b2x53
       case hyb5b2x53 =>
        intro w hSw
        (try dsimp only at hSw)
        obtain ⟨ga0, ga1, ga2, ga3, ga4, gb0, gb1, gb2, gb3, gb4⟩ := HDX.out w hSw
        go_simp
        (try with_reducible rfl)
       change wpAnyH _ _ _ _ _ _ _ (Act.put _ (some 28) _) _
       try simp only [Act.put, qa1, qa2, qa3]
       refine wpAnyH_take (i := 5) (v := ?vb5b5x54) rfl (by kernel_rfl) (by kernel_rfl) (by kernel_rfl) (fun _ _ _ h => h) (Or.inl ⟨by rfl, ?hyb5b5x54⟩) (by assumption) ?restb5b5x54
       case hyb5b5x54 =>
        intro w hSw
        (try dsimp only at hSw)
        go_simp
        (try with_reducible rfl)
       change wpAnyH _ _ _ _ _ _ _ (Act.put _ (some 31) _) _
       try simp only [Act.put, qa1, qa2, qa3]
       refine wpAnyH_take (i := 6) (v := ?vb5b6x55) rfl (by kernel_rfl) (by kernel_rfl) (by kernel_rfl) (fun _ _ _ h => h) (Or.inl ⟨by rfl, ?hyb5b6x55⟩) (by assumption) ?restb5b6x55
       case hyb5b6x55 =>
        intro w hSw
        (try dsimp only at hSw)
        go_simp
        (try with_reducible rfl)
       change wpAnyH _ _ _ _ _ _ _ (Act.put _ (some 32) _) _
       try simp only [Act.put, qa1, qa2, qa3]
       refine wpAnyH_take (i := 7) (v := ?vb5b7x56) rfl (by kernel_rfl) (by kernel_rfl) (by kernel_rfl) (fun _ _ _ h => h) (Or.inl ⟨by rfl, ?hyb5b7x56⟩) (by assumption) ?restb5b7x56
       case hyb5b7x56 =>
        intro w hSw
        (try dsimp only at hSw)
        go_simp
        (try with_reducible rfl)
       change wpAnyH _ _ _ _ _ _ _ (Act.put _ (some 33) _) _
       try simp only [Act.put, qa1, qa2, qa3]
       refine wpAnyH_ready (rs := [3, 8]) (by kernel_rfl) (by simp) ?_
       refine AllReadyH.cons rfl (fun K hK => ?_) (AllReadyH.cons rfl (fun K hK => ?_) AllReadyH.nil)
       ·go_simp
        (try go_wp2_with fail)
        refine hK.out _ _ (by repeat (first | exact hHeld | exact UpK.refl | refine UpK.setC _ _ ?_ | refine UpK.setR _ _ ?_ | refine UpK.alloc _ ?_ | refine UpK.drew ?_)) (fun hHeld => ?_)
        clear hK K
        try simp only [Act.put, qa1, qa2, qa3]
        have HR6x : RdrW rb ru l2 ((W5.alloc (.cells #[.int .i64 x0, .string x1, .string x2, .int .i64 x3, .slice xd xl xc, .int .i64 y0, .string y1, .string y2, .int .i64 y3, .slice yd yl yc] 26)).drew) := (HR5.out.alloc _).drew
        have HR6y : RdrW rb ru l2 (W5.drew.alloc (.cells #[.int .i64 x0, .string x1, .string x2, .int .i64 x3, .slice xd xl xc, .int .i64 y0, .string y1, .string y2, .int .i64 y3, .slice yd yl yc] 26)) := HR5.out.drew.alloc _
        first
         | generalize hWn : (W5.alloc (.cells #[.int .i64 x0, .string x1, .string x2, .int .i64 x3, .slice xd xl xc, .int .i64 y0, .string y1, .string y2, .int .i64 y3, .slice yd yl yc] 26)).drew = W6 at hHeld HR6x ⊢
         | generalize hWn : W5.drew.alloc (.cells #[.int .i64 x0, .string x1, .string x2, .int .i64 x3, .slice xd xl xc, .int .i64 y0, .string y1, .string y2, .int .i64 y3, .slice yd yl yc] 26) = W6 at hHeld HR6y ⊢
        have HBTW6 : Hid (But rb W5 W6) := hid (by rw [← hWn]; first | exact ((But.refl rb W5).alloc _).drew | exact ((But.refl rb W5).drew).alloc _ | exact (But.refl rb W5).alloc _)
        have HCEW6 : Hid (∀ i, W6.cell? ⟨W5.heap.size, i, none⟩ = (#[.int .i64 x0, .string x1, .string x2, .int .i64 x3, .slice xd xl xc, .int .i64 y0, .string y1, .string y2, .int .i64 y3, .slice yd yl yc] : Array Value)[i]?) := hid (fun i => by rw [← hWn]; first | exact cell_top W5 _ _ _ i rfl | exact cell_top W5.drew _ _ _ i rfl)
        have HSZW6 : Hid (W5.heap.size < W6.heap.size) := hid (by rw [← hWn]; simp)
        clear hWn
        have HR6 : Hid (RdrW rb ru l2 W6) := hid (by first | exact HR6x | exact HR6y)
        clear HR6x HR6y
        have HU6 := hid hHeld
        have HBXW6 : Hid (Box5 c W6) := hid (HBX5.out.but HBTW6.out HCR.out)
        (try clear r0 r1 r2 r3 r4 q0 q1 q2 q3 q4 hcl)
        have r0 := HBXW6.out.r0
        have r1 := HBXW6.out.r1
        have r2 := HBXW6.out.r2
        have r3 := HBXW6.out.r3
        have r4 := HBXW6.out.r4
        have q0 := HBXW6.out.fz 0
        have q1 := HBXW6.out.fz 1
        have q2 := HBXW6.out.fz 2
        have q3 := HBXW6.out.fz 3
        have q4 := HBXW6.out.fz 4
        have hcl := HBXW6.out.lt
        refine wpAnyH_take (i := 4) (v := ?vb6b4x401) rfl (by kernel_rfl) (by kernel_rfl) (by kernel_rfl) (fun _ _ _ h => h) (Or.inl ⟨by rfl, ?hyb6b4x401⟩) (by assumption) ?restb6b4x401
        case hyb6b4x401 =>
         intro w hSw
         (try dsimp only at hSw)
         go_simp
         (try with_reducible rfl)
        change wpAnyH _ _ _ _ _ _ _ (Act.put _ (some 30) _) _
        try simp only [Act.put, qa1, qa2, qa3]
        refine wpAnyH_ready (rs := [8]) (by kernel_rfl) (by simp) ?_
        refine AllReadyH.cons rfl (fun K hK => ?_) AllReadyH.nil
        go_simp
        go_at_call 91
        refine Calls.mono (take_no3 rb l2 41 41 (by decide) ru W6 HR6.out HN41.out) ?_
        rintro e w' ⟨rfl, rfl⟩
        (try go_wp2_with fail)
        refine hK.out _ _ (HU6.out) (fun hHeld => ?_)
        clear hK K
        try simp only [Act.put, qa1, qa2, qa3]
        refine wpAnyH_take (i := 9) (v := ?vb6b9x402) rfl (by kernel_rfl) (by kernel_rfl) (by kernel_rfl) (fun _ _ _ h => h) (Or.inl ⟨by rfl, ?hyb6b9x402⟩) (by assumption) ?restb6b9x402
        case hyb6b9x402 =>
         intro w hSw
         (try dsimp only at hSw)
         go_simp
         (try with_reducible rfl)
        change wpAnyH _ _ _ _ _ _ _ (Act.put _ (some 35) _) _
        try simp only [Act.put, qa1, qa2, qa3]
        refine wpAnyH_ready (rs := [10]) (by kernel_rfl) (by simp) ?_
        refine AllReadyH.cons rfl (fun K hK => ?_) AllReadyH.nil
        go_simp
        (try go_wp2_with fail)
        refine hK.out _ _ (by repeat (first | exact hHeld | exact UpK.refl | exact HU7.out | exact HU6.out | refine UpK.setC _ _ ?_ | refine UpK.setR _ _ ?_ | refine UpK.alloc _ ?_ | refine UpK.drew ?_)) (fun hHeld => ?_)
        clear hK K
        try simp only [Act.put, qa1, qa2, qa3]
        refine wpAnyH_take (i := 11) (v := ?vb6b11x403) rfl (by kernel_rfl) (by kernel_rfl) (by kernel_rfl) (fun _ _ _ h => h) (Or.inl ⟨by rfl, ?hyb6b11x403⟩) (by assumption) ?restb6b11x403
        case hyb6b11x403 =>
         intro w hSw
         (try dsimp only at hSw)
         go_simp
         (try with_reducible rfl)
        change wpAnyH _ _ _ _ _ _ _ (Act.put _ (some 3) _) _
        try simp only [Act.put, qa1, qa2, qa3]
        refine wpAnyH_done (by kernel_rfl) ?_ _
        go_wp2_with fail
        refine bodyPost_ret (v := .tuple #[.agg #[.int .i64 kk, .string ⟨#[]⟩, .string ⟨#[]⟩, .int .i64 0, .slice (some ⟨W5.heap.size, 0, none⟩) 2 2], .bool false]) (by simp [results, Tryz.results93, go_sem, cell_set, r0, r1, r2, r3, r4, hcl]) rfl ?_
        show AskQ rb w _ _ (five W6 c (.int .i64 kk) (.string ⟨#[]⟩) (.string ⟨#[]⟩) (.int .i64 0) (.slice (some ⟨W5.heap.size, 0, none⟩) 2 2))
        rw [HP.out]
        exact ⟨five_but (HB5.out.trans HBTW6.out) (Nat.le_of_eq HC.out.symm) _ _ _ _ _, _, rfl, ⟨_, _, _, _, _, _, _, rfl⟩, ru, l2, by have := HRL.out; omega, (HR6.out).five HCR.out _ _ _ _ _⟩
       ·go_simp
        go_at_call 91
        refine Calls.mono (take_no3 rb l2 41 41 (by decide) ru W5.drew HR5.out.drew HN41.out) ?_
        rintro e w' ⟨rfl, rfl⟩
        (try go_wp2_with fail)
        refine hK.out _ _ (hHeld) (fun hHeld => ?_)
        clear hK K
        try simp only [Act.put, qa1, qa2, qa3]
        refine wpAnyH_take (i := 9) (v := ?vb7b9x501) rfl (by kernel_rfl) (by kernel_rfl) (by kernel_rfl) (fun _ _ _ h => h) (Or.inl ⟨by rfl, ?hyb7b9x501⟩) (by assumption) ?restb7b9x501
        case hyb7b9x501 =>
         intro w hSw
         (try dsimp only at hSw)
         go_simp
         (try with_reducible rfl)
        change wpAnyH _ _ _ _ _ _ _ (Act.put _ (some 35) _) _
        try simp only [Act.put, qa1, qa2, qa3]
        refine wpAnyH_ready (rs := [3]) (by kernel_rfl) (by simp) ?_
        refine AllReadyH.cons rfl (fun K hK => ?_) AllReadyH.nil
        go_simp
        (try go_wp2_with fail)
        refine hK.out _ _ (by repeat (first | exact hHeld | exact UpK.refl | refine UpK.setC _ _ ?_ | refine UpK.setR _ _ ?_ | refine UpK.alloc _ ?_ | refine UpK.drew ?_)) (fun hHeld => ?_)
        clear hK K
        try simp only [Act.put, qa1, qa2, qa3]
        have HR6x : RdrW rb ru l2 ((W5.alloc (.cells #[.int .i64 x0, .string x1, .string x2, .int .i64 x3, .slice xd xl xc, .int .i64 y0, .string y1, .string y2, .int .i64 y3, .slice yd yl yc] 26)).drew) := (HR5.out.alloc _).drew
        have HR6y : RdrW rb ru l2 (W5.drew.alloc (.cells #[.int .i64 x0, .string x1, .string x2, .int .i64 x3, .slice xd xl xc, .int .i64 y0, .string y1, .string y2, .int .i64 y3, .slice yd yl yc] 26)) := HR5.out.drew.alloc _
        first
         | generalize hWn : (W5.alloc (.cells #[.int .i64 x0, .string x1, .string x2, .int .i64 x3, .slice xd xl xc, .int .i64 y0, .string y1, .string y2, .int .i64 y3, .slice yd yl yc] 26)).drew = W6 at hHeld HR6x ⊢
         | generalize hWn : W5.drew.alloc (.cells #[.int .i64 x0, .string x1, .string x2, .int .i64 x3, .slice xd xl xc, .int .i64 y0, .string y1, .string y2, .int .i64 y3, .slice yd yl yc] 26) = W6 at hHeld HR6y ⊢
        have HBTW6 : Hid (But rb W5 W6) := hid (by rw [← hWn]; first | exact ((But.refl rb W5).alloc _).drew | exact ((But.refl rb W5).drew).alloc _ | exact (But.refl rb W5).alloc _)
        have HCEW6 : Hid (∀ i, W6.cell? ⟨W5.heap.size, i, none⟩ = (#[.int .i64 x0, .string x1, .string x2, .int .i64 x3, .slice xd xl xc, .int .i64 y0, .string y1, .string y2, .int .i64 y3, .slice yd yl yc] : Array Value)[i]?) := hid (fun i => by rw [← hWn]; first | exact cell_top W5 _ _ _ i rfl | exact cell_top W5.drew _ _ _ i rfl)
        have HSZW6 : Hid (W5.heap.size < W6.heap.size) := hid (by rw [← hWn]; simp)
        clear hWn
        have HR6 : Hid (RdrW rb ru l2 W6) := hid (by first | exact HR6x | exact HR6y)
        clear HR6x HR6y
        have HU6 := hid hHeld
        have HBXW6 : Hid (Box5 c W6) := hid (HBX5.out.but HBTW6.out HCR.out)
        (try clear r0 r1 r2 r3 r4 q0 q1 q2 q3 q4 hcl)
        have r0 := HBXW6.out.r0
        have r1 := HBXW6.out.r1
        have r2 := HBXW6.out.r2
        have r3 := HBXW6.out.r3
        have r4 := HBXW6.out.r4
        have q0 := HBXW6.out.fz 0
        have q1 := HBXW6.out.fz 1
        have q2 := HBXW6.out.fz 2
        have q3 := HBXW6.out.fz 3
        have q4 := HBXW6.out.fz 4
        have hcl := HBXW6.out.lt
        refine wpAnyH_take (i := 4) (v := ?vb7b4x502) rfl (by kernel_rfl) (by kernel_rfl) (by kernel_rfl) (fun _ _ _ h => h) (Or.inl ⟨by rfl, ?hyb7b4x502⟩) (by assumption) ?restb7b4x502
        case hyb7b4x502 =>
         intro w hSw
         (try dsimp only at hSw)
         go_simp
         (try with_reducible rfl)
        change wpAnyH _ _ _ _ _ _ _ (Act.put _ (some 30) _) _
        try simp only [Act.put, qa1, qa2, qa3]
        refine wpAnyH_ready (rs := [10]) (by kernel_rfl) (by simp) ?_
        refine AllReadyH.cons rfl (fun K hK => ?_) AllReadyH.nil
        go_simp
        (try go_wp2_with fail)
        refine hK.out _ _ (by repeat (first | exact hHeld | exact UpK.refl | exact HU7.out | exact HU6.out | refine UpK.setC _ _ ?_ | refine UpK.setR _ _ ?_ | refine UpK.alloc _ ?_ | refine UpK.drew ?_)) (fun hHeld => ?_)
        clear hK K
        try simp only [Act.put, qa1, qa2, qa3]
        refine wpAnyH_take (i := 11) (v := ?vb7b11x503) rfl (by kernel_rfl) (by kernel_rfl) (by kernel_rfl) (fun _ _ _ h => h) (Or.inl ⟨by rfl, ?hyb7b11x503⟩) (by assumption) ?restb7b11x503
        case hyb7b11x503 =>
         intro w hSw
         (try dsimp only at hSw)
         go_simp
         (try with_reducible rfl)
        change wpAnyH _ _ _ _ _ _ _ (Act.put _ (some 3) _) _
        try simp only [Act.put, qa1, qa2, qa3]
        refine wpAnyH_done (by kernel_rfl) ?_ _
        go_wp2_with fail
        refine bodyPost_ret (v := .tuple #[.agg #[.int .i64 kk, .string ⟨#[]⟩, .string ⟨#[]⟩, .int .i64 0, .slice (some ⟨W5.heap.size, 0, none⟩) 2 2], .bool false]) (by simp [results, Tryz.results93, go_sem, cell_set, r0, r1, r2, r3, r4, hcl]) rfl ?_
        show AskQ rb w _ _ (five W6 c (.int .i64 kk) (.string ⟨#[]⟩) (.string ⟨#[]⟩) (.int .i64 0) (.slice (some ⟨W5.heap.size, 0, none⟩) 2 2))
        rw [HP.out]
        exact ⟨five_but (HB5.out.trans HBTW6.out) (Nat.le_of_eq HC.out.symm) _ _ _ _ _, _, rfl, ⟨_, _, _, _, _, _, _, rfl⟩, ru, l2, by have := HRL.out; omega, (HR6.out).five HCR.out _ _ _ _ _⟩
end Go.Proofs.YtkemlckmfgacdaaGreatDoor
