/- Contract: the program's reader of an ask, as deep as it goes. -/
import Derived.Test.YtkemlckmfgacdaaGreatDoorJnP17
import Derived.Test.YtkemlckmfgacdaaGreatDoorJnP5
import Derived.Test.YtkemlckmfgacdaaGreatDoorJnP9
import Derived.Deep.RegionHeld3
import Derived.Deep.CutBlock
import Derived.Deep.DeepCutAuto
namespace Go.Proofs.YtkemlckmfgacdaaGreatDoor
set_option maxRecDepth 20000
set_option maxHeartbeats 64000000
open Go.ChangeShapes Go.WideShapes Go.ChangeAt Go.RowKit
set_option linter.unusedVariables false
set_option linter.unusedSimpArgs false
open Tp
theorem ask_nil (rb N : Nat) (s : Bs) (w : World) (hs : s.length ≤ 2000) (hr : RdrW rb s 0 w) : Calls Tryz.prog 69 #[.pointer (some ⟨rb, 0, none⟩)] w (AskQ rb w (Ar.askP N 0 s)) := by
 have HP : Hid (Ar.askP N 0 s = none) := hid (by cases N <;> simp [Ar.askP])
 obtain ⟨c, hc⟩ : ∃ c, c = w.heap.size := ⟨_, rfl⟩
 obtain ⟨W0, hW0⟩ : ∃ W, W = w.alloc (.cells #[.int .i64 0, .string ⟨#[]⟩, .string ⟨#[]⟩, .int .i64 0, .slice none 0 0] 26) := ⟨_, rfl⟩
 have HBX : Hid (Box5 c W0) := hid (by rw [hW0]; exact Box5.top hc)
 have HB0 : Hid (But rb w W0) := hid (by rw [hW0]; exact (But.refl _ _).alloc _)
 have HR0 : Hid (RdrW rb s 0 W0) := hid (by rw [hW0]; exact hr.alloc _)
 have HC := hid hc
 have HCR : Hid (c ≠ rb) := hid (by have := hr.lt; omega)
 have HSL := hid hs
 have d1 := HR0.out.l'
 have hrl := HR0.out.lt
 clear hs hr
 go_enter Tryz.func69, Tryz.ntmps69
 go_upto_region 1 with fail
 rw [← hW0, ← hc]
 clear hW0 hc
 have r0 := HBX.out.r0
 have r1 := HBX.out.r1
 have r2 := HBX.out.r2
 have r3 := HBX.out.r3
 have r4 := HBX.out.r4
 have q0 := HBX.out.fz 0
 have q1 := HBX.out.fz 1
 have q2 := HBX.out.fz 2
 have q3 := HBX.out.fz 3
 have q4 := HBX.out.fz 4
 have hcl := HBX.out.lt
 have hcl1 : c < W0.heap.size + 1 := Nat.lt_succ_of_lt hcl
 go_wp2_with fail
 refine bodyPost_ret (v := .tuple #[.agg #[.int .i64 0, .string ⟨#[]⟩, .string ⟨#[]⟩, .int .i64 0, .slice none 0 0], .bool false]) (by simp [results, Tryz.results69, go_sem, cell_set, r0, r1, r2, r3, r4, hcl, hcl1]) rfl ?_
 show AskQ rb w _ _ (five W0 c (.int .i64 0) (.string ⟨#[]⟩) (.string ⟨#[]⟩) (.int .i64 0) (.slice none 0 0))
 rw [HP.out]
 exact ⟨five_but (HB0.out) (Nat.le_of_eq HC.out.symm) _ _ _ _ _, zero5, rfl, five_zero, s, 0, by have := HSL.out; (try simp only [List.length_cons] at this); omega, (HR0.out).five HCR.out _ _ _ _ _⟩
theorem ask_all (rb : Nat) : ∀ (N left : Nat) (s : Bs) (w : World), left ≤ N → left ≤ 60 → s.length ≤ 2000 → (∀ W, But rb w W → Env W) → RdrW rb s left w → Calls Tryz.prog 69 #[.pointer (some ⟨rb, 0, none⟩)] w (AskQ rb w (Ar.askP N left s)) := by
 intro N
 induction N with
 | zero =>
  intro left s w hN hl6 hs hE hr
  obtain rfl : left = 0 := by omega
  exact ask_nil rb 0 s w hs hr
 | succ N ih =>
  intro left s w hN hl6 hs hE hr
  by_cases hl0 : left = 0
  ·subst hl0; exact ask_nil rb (N + 1) s w hs hr
  obtain ⟨l, rfl⟩ : ∃ l, left = l + 1 := ⟨left - 1, by omega⟩
  have HIH : Hid (∀ s' w', s'.length ≤ 2000 → (∀ W, But rb w' W → Env W) → RdrW rb s' l w' → Calls Tryz.prog 69 #[.pointer (some ⟨rb, 0, none⟩)] w' (AskQ rb w' (Ar.askP N l s'))) := hid (fun s' w' h1 h2 h3 => ih l s' w' (by omega) (by omega) h1 h2 h3)
  have HTW : Hid (∀ s' w', s'.length ≤ 2000 → (∀ W, But rb w' W → Env W) → RdrW rb s' l w' → Calls Tryz.prog 93 #[.pointer (some ⟨rb, 0, none⟩)] w' (AskQ rb w' (twoP N l s'))) := hid (fun s' w' h1 h2 h3 => two_of rb N l s' w' h1 h2 h3 (fun left' s2 w2 g1 g2 g3 g4 => ih left' s2 w2 (by omega) (by omega) g2 g3 g4))
  obtain ⟨c, hc⟩ : ∃ c, c = w.heap.size := ⟨_, rfl⟩
  obtain ⟨W0, hW0⟩ : ∃ W, W = w.alloc (.cells #[.int .i64 0, .string ⟨#[]⟩, .string ⟨#[]⟩, .int .i64 0, .slice none 0 0] 26) := ⟨_, rfl⟩
  have hbx0 : Box5 c W0 := by rw [hW0]; exact Box5.top hc
  have hbt0 : But rb w W0 := by rw [hW0]; exact (But.refl _ _).alloc _
  have hrd0 : RdrW rb s (l + 1) W0 := by rw [hW0]; exact hr.alloc _
  have hcr : c ≠ rb := by have := hr.lt; omega
  obtain ⟨W1, hW1⟩ : ∃ W, W = W0.setCell ⟨rb, 1, none⟩ (.int .i64 (l : Int)) := ⟨_, rfl⟩
  have HB1 : Hid (But rb w W1) := hid (by rw [hW1]; exact hbt0.setCell (a := ⟨rb, 1, none⟩) (.inl rfl) _)
  have HBX1 : Hid (Box5 c W1) := hid (by rw [hW1]; exact hbx0.but ((But.refl rb W0).setCell (a := ⟨rb, 1, none⟩) (.inl rfl) _) hcr)
  have HR1 : Hid (RdrW rb s l W1) := hid (by rw [hW1]; exact hrd0.putL l)
  have HCS : Hid (c < W1.heap.size ∧ w.heap.size ≤ W1.heap.size) := hid ⟨HBX1.out.lt, HB1.out.size⟩
  have HC := hid hc
  have HCR := hid hcr
  have HEV := hid hE
  have HSL := hid hs
  have d1 : W0.cell? ⟨rb, 1, none⟩ = some (.int .i64 ((l : Int) + 1)) := hrd0.l'
  have f1 := hrd0.f1
  have hrl := hrd0.lt
  have hz : (((l : Int) + 1) == 0) = false := by simp only [beq_eq_false_iff_ne]; omega
  have hl60 : (l : Int) ≤ 9223372036854775806 := by omega
  obtain ⟨O, hO⟩ : ∃ O, Ar.askP (N + 1) (l + 1) s = O := ⟨_, rfl⟩
  have HO := hid hO
  rw [hO]
  clear ih hl0 hbx0 hbt0 hrd0 hcr hE hs hr hO hN
  go_enter Tryz.func69, Tryz.ntmps69
  go_upto_region 1 with fail
  rw [← hW0, ← hc]
  clear hW0 hc
  go_upto_region 4 with fail
  rw [← hW1]
  clear hW1 d1 f1 hz hl60 hrl
  go_wp2_with fail
  by_cases h63 : ∃ t, s = 63 :: t
  ·obtain ⟨t, rfl⟩ := h63
   refine Calls.mono (take_yes3 rb l 63 63 (by decide) t W1 HR1.out (by have := HSL.out; simp only [List.length_cons] at this; omega)) ?_
   rintro e W2 ⟨rfl, hr2, hb2⟩
   have HR2 := hid hr2
   have HB2 := hid (HB1.out.trans hb2)
   have HBX2 := hid (HBX1.out.but hb2 HCR.out)
   clear hr2 hb2
   go_wp2_with fail
   refine Calls.mono (word_any rb l t W2 HR2.out (by have := HSL.out; (try simp only [List.length_cons] at this); omega)) ?_
   rintro e W3 ⟨rfl, hr3, hb3⟩
   have HR3 := hid hr3
   have HB3 := hid (HB2.out.trans hb3)
   have HBX3 := hid (HBX2.out.but hb3 HCR.out)
   clear hr3 hb3
   have HP : Hid (O = some (.mk 1 (Ar.word t) [] 0 [], Ar.rest t, l)) := hid (by rw [← HO.out]; simp [Ar.askP])
   have HL := hid (Ar.word_len t)
   obtain ⟨A, hA⟩ : ∃ A, bts (Ar.word t) = A := ⟨_, rfl⟩
   have HA := hid hA
   rw [hA]
   clear hA
   have r0 := HBX3.out.r0
   have r1 := HBX3.out.r1
   have r2 := HBX3.out.r2
   have r3 := HBX3.out.r3
   have r4 := HBX3.out.r4
   have q0 := HBX3.out.fz 0
   have q1 := HBX3.out.fz 1
   have q2 := HBX3.out.fz 2
   have q3 := HBX3.out.fz 3
   have q4 := HBX3.out.fz 4
   have hcl := HBX3.out.lt
   have hcl1 : c < W3.heap.size + 1 := Nat.lt_succ_of_lt hcl
   go_wp2_with fail
   refine bodyPost_ret (v := .tuple #[.agg #[.int .i64 1, .string A, .string ⟨#[]⟩, .int .i64 0, .slice none 0 0], .bool true]) (by simp [results, Tryz.results69, go_sem, cell_set, r0, r1, r2, r3, r4, hcl, hcl1]) rfl ?_
   show AskQ rb w _ _ (five W3 c (.int .i64 1) (.string A) (.string ⟨#[]⟩) (.int .i64 0) (.slice none 0 0))
   rw [HP.out]
   refine ⟨five_but HB3.out (Nat.le_of_eq HC.out.symm) _ _ _ _ _, _, rfl, ⟨_, _, _, _, _, _, _, rfl⟩, ?_, HR3.out.five HCR.out _ _ _ _ _⟩
   rw [← HA.out]
   exact leaf_vp 1 (Ar.word t) [] 0 (by have := HL.out; have := HSL.out; simp only [List.length_cons] at this; omega) (by simp)
  have HN63 : Hid (∀ t, s ≠ 63 :: t) := hid (fun t e => h63 ⟨t, e⟩)
  clear h63
  refine Calls.mono (take_no3 rb l 63 63 (by decide) s W1 HR1.out HN63.out) ?_
  rintro e w' ⟨rfl, rfl⟩
  go_wp2_with fail
  by_cases h33 : ∃ t, s = 33 :: t
  ·obtain ⟨t, rfl⟩ := h33
   refine Calls.mono (take_yes3 rb l 33 33 (by decide) t W1 HR1.out (by have := HSL.out; simp only [List.length_cons] at this; omega)) ?_
   rintro e W2 ⟨rfl, hr2, hb2⟩
   have HR2 := hid hr2
   have HB2 := hid (HB1.out.trans hb2)
   have HBX2 := hid (HBX1.out.but hb2 HCR.out)
   clear hr2 hb2
   go_wp2_with fail
   refine Calls.mono (HIH.out t W2 (by have := HSL.out; simp only [List.length_cons] at this; omega) (fun W h => HEV.out W (HB2.out.trans h)) HR2.out) ?_
   rintro e W3 hq
   obtain ⟨hb3, bv, x0, x1, x2, x3, xd, xl, xc, rfl, hq3⟩ := hq.form
   have HQ3 := hid hq3
   have HB3 := hid (HB2.out.trans hb3)
   have HBX3 := hid (HBX2.out.but hb3 HCR.out)
   have HS3 := hid hb3.size
   clear hb3 hq hq3
   go_upto_region 8 with fail
   obtain ⟨W4, hW4⟩ : ∃ W, W = W3.alloc (.cells #[.int .i64 x0, .string x1, .string x2, .int .i64 x3, .slice xd xl xc] 26) := ⟨_, rfl⟩
   obtain ⟨d, hd⟩ : ∃ d, d = W3.heap.size := ⟨_, rfl⟩
   have HBX4 : Hid (Box5 c W4) := hid (by rw [hW4]; exact HBX3.out.but ((But.refl rb W3).alloc _) HCR.out)
   have bd0 : W4.cell? ⟨d, 0, none⟩ = some (.int .i64 x0) := by rw [hW4]; exact (cell_top _ _ _ _ _ hd).trans rfl
   have bd1 : W4.cell? ⟨d, 1, none⟩ = some (.string x1) := by rw [hW4]; exact (cell_top _ _ _ _ _ hd).trans rfl
   have bd2 : W4.cell? ⟨d, 2, none⟩ = some (.string x2) := by rw [hW4]; exact (cell_top _ _ _ _ _ hd).trans rfl
   have bd3 : W4.cell? ⟨d, 3, none⟩ = some (.int .i64 x3) := by rw [hW4]; exact (cell_top _ _ _ _ _ hd).trans rfl
   have bd4 : W4.cell? ⟨d, 4, none⟩ = some (.slice xd xl xc) := by rw [hW4]; exact (cell_top _ _ _ _ _ hd).trans rfl
   have hdld : d < W4.heap.size := by rw [hW4, hd]; simp
   rw [← hW4, ← hd]
   have HW4 := hid hW4
   have HDd := hid hd
   clear hW4 hd
   have HQ4 : Hid (AskR rb w O bv (.agg #[.int .i64 4, .string ⟨#[]⟩, .string ⟨#[]⟩, .int .i64 0, .slice (some ⟨W4.heap.size, 0, none⟩) 1 1]) ((five W4 c (.int .i64 4) (.string ⟨#[]⟩) (.string ⟨#[]⟩) (.int .i64 0) (.slice (some ⟨W4.heap.size, 0, none⟩) 1 1)).alloc (.cells #[.int .i64 x0, .string x1, .string x2, .int .i64 x3, .slice xd xl xc] 26))) := hid (by
    have hq3 := HQ3.out
    have hOo := HO.out
    cases hp : Ar.askP N l t with
    | none =>
     rw [hp] at hq3
     obtain ⟨h1, r, l2, h2, h3⟩ := hq3
     have hP : O = none := by rw [← hOo]; simp [Ar.askP, hp]
     rw [hP]
     exact ⟨h1, r, l2, h2, (((HW4.out ▸ h3.alloc _ : RdrW rb r l2 W4)).five HCR.out _ _ _ _ _).alloc _⟩
    | some p =>
     obtain ⟨y, r, l2⟩ := p
     rw [hp] at hq3
     obtain ⟨h1, h2, h3⟩ := hq3
     have hP : O = some (.mk 4 [] [] 0 [y], r, l2) := by rw [← hOo]; simp [Ar.askP, hp]
     rw [hP]
     have h4s : W3.heap.size ≤ W4.heap.size := by rw [HW4.out]; simp
     refine ⟨h1, tree_one (Nat.le_trans HS3.out h4s) HBX2.out.lt HB2.out.size ?_ _ _ _ _ _, (((HW4.out ▸ h3.alloc _ : RdrW rb r l2 W4)).five HCR.out _ _ _ _ _).alloc _⟩
     exact AskVP.stays (fun b h => h) h4s (fun b _ hb => by rw [HW4.out]; exact Below.heap_alloc _ _ _ hb) _ _ h2)
   have HB4 : Hid (But rb w W4) := hid (by rw [HW4.out]; exact HB3.out.alloc _)
   have r0 := HBX4.out.r0
   have r1 := HBX4.out.r1
   have r2 := HBX4.out.r2
   have r3 := HBX4.out.r3
   have r4 := HBX4.out.r4
   have q0 := HBX4.out.fz 0
   have q1 := HBX4.out.fz 1
   have q2 := HBX4.out.fz 2
   have q3 := HBX4.out.fz 3
   have q4 := HBX4.out.fz 4
   have hcl := HBX4.out.lt
   have hcl1 : c < W4.heap.size + 1 := Nat.lt_succ_of_lt hcl
   go_wp2_with fail
   refine bodyPost_ret (v := .tuple #[.agg #[.int .i64 4, .string ⟨#[]⟩, .string ⟨#[]⟩, .int .i64 0, .slice (some ⟨W4.heap.size, 0, none⟩) 1 1], .bool bv]) (by simp [results, Tryz.results69, go_sem, cell_set, r0, r1, r2, r3, r4, hcl, hcl1]) rfl ?_
   exact AskQ.mk' ((five_but HB4.out (Nat.le_of_eq HC.out.symm) _ _ _ _ _).alloc _) HQ4.out
  have HN33 : Hid (∀ t, s ≠ 33 :: t) := hid (fun t e => h33 ⟨t, e⟩)
  clear h33
  refine Calls.mono (take_no3 rb l 33 33 (by decide) s W1 HR1.out HN33.out) ?_
  rintro e w' ⟨rfl, rfl⟩
  go_wp2_with fail
  by_cases h40 : ∃ t, s = 40 :: t
  ·obtain ⟨t, rfl⟩ := h40
   refine Calls.mono (take_yes3 rb l 40 40 (by decide) t W1 HR1.out (by have := HSL.out; simp only [List.length_cons] at this; omega)) ?_
   rintro e W2 ⟨rfl, hr2, hb2⟩
   have HR2 := hid hr2
   have HB2 := hid (HB1.out.trans hb2)
   have HBX2 := hid (HBX1.out.but hb2 HCR.out)
   clear hr2 hb2
   go_wp2_with fail
   refine Calls.mono (HTW.out t W2 (by have := HSL.out; simp only [List.length_cons] at this; omega) (fun W h => HEV.out W (HB2.out.trans h)) HR2.out) ?_
   rintro e W3 hq
   obtain ⟨hb3, bv, x0, x1, x2, x3, xd, xl, xc, rfl, hq3⟩ := hq.form
   have HQ3 := hid hq3
   have HB3 := hid (HB2.out.trans hb3)
   have HBX3 := hid (HBX2.out.but hb3 HCR.out)
   have hOT : O = twoP N l t := by rw [← HO.out]; exact askP_two N l t
   have HOT := hid hOT
   clear hb3 hq hq3 hOT
   have HQ4 : Hid (AskR rb w O bv (.agg #[.int .i64 x0, .string x1, .string x2, .int .i64 x3, .slice xd xl xc]) (five W3 c (.int .i64 x0) (.string x1) (.string x2) (.int .i64 x3) (.slice xd xl xc))) := hid (by
    have hq3 := HQ3.out
    have hOo := HOT.out
    cases hp : twoP N l t with
    | none =>
     rw [hp] at hq3 hOo
     obtain ⟨h1, r, l2, h2, h3⟩ := hq3
     rw [hOo]
     exact ⟨h1, r, l2, h2, h3.five HCR.out _ _ _ _ _⟩
    | some p =>
     obtain ⟨y, r, l2⟩ := p
     rw [hp] at hq3 hOo
     obtain ⟨h1, h2, h3⟩ := hq3
     rw [hOo]
     refine ⟨h1, ?_, h3.five HCR.out _ _ _ _ _⟩
     exact AskVP.stays (fun b h => Nat.le_trans HB2.out.size h) (by rw [five_size]; exact Nat.le_refl _) (fun b h _ => five_heap _ _ _ _ _ _ _ b (fun e => by have := HBX2.out.lt; omega)) _ _ h2)
   have r0 := HBX3.out.r0
   have r1 := HBX3.out.r1
   have r2 := HBX3.out.r2
   have r3 := HBX3.out.r3
   have r4 := HBX3.out.r4
   have q0 := HBX3.out.fz 0
   have q1 := HBX3.out.fz 1
   have q2 := HBX3.out.fz 2
   have q3 := HBX3.out.fz 3
   have q4 := HBX3.out.fz 4
   have hcl := HBX3.out.lt
   have hcl1 : c < W3.heap.size + 1 := Nat.lt_succ_of_lt hcl
   go_wp2_with fail
   refine bodyPost_ret (v := .tuple #[.agg #[.int .i64 x0, .string x1, .string x2, .int .i64 x3, .slice xd xl xc], .bool bv]) (by simp [results, Tryz.results69, go_sem, cell_set, r0, r1, r2, r3, r4, hcl, hcl1]) rfl ?_
   exact AskQ.mk' (five_but HB3.out (Nat.le_of_eq HC.out.symm) _ _ _ _ _) HQ4.out
  have HN40 : Hid (∀ t, s ≠ 40 :: t) := hid (fun t e => h40 ⟨t, e⟩)
  have HEL : Hid (O = elseP (Ar.word s) (Ar.rest s) l) := hid (HO.out.symm.trans (askP_else (N := N) (left := l) HN63.out HN33.out HN40.out))
  clear h40
  refine Calls.mono (take_no3 rb l 40 40 (by decide) s W1 HR1.out HN40.out) ?_
  rintro e w' ⟨rfl, rfl⟩
  go_wp2_with fail
  refine Calls.mono (word_any rb l s W1 HR1.out (by have := HSL.out; (try simp only [List.length_cons] at this); omega)) ?_
  rintro e W2 ⟨rfl, hr2, hb2⟩
  have HR2 := hid hr2
  have HB2 := hid (HB1.out.trans hb2)
  have HBX2 := hid (HBX1.out.but hb2 HCR.out)
  clear hr2 hb2
  have HL := hid (Ar.word_len s)
  have HRLN := hid (Ar.rest_len s)
  obtain ⟨R, hR⟩ : ∃ R, Ar.rest s = R := ⟨_, rfl⟩
  rw [hR] at HEL HRLN HR2
  obtain ⟨A, hA⟩ : ∃ A, bts (Ar.word s) = A := ⟨_, rfl⟩
  have HA := hid hA
  rw [hA]
  have HLR : Hid (R.length ≤ 2000) := hid (by have := HRLN.out; have := HSL.out; omega)
  have HLA : Hid ((Ar.word s).length ≤ 2000) := hid (by have := HL.out; have := HSL.out; omega)
  clear hA hR
  go_wp2_with fail
  by_cases h62 : ∃ t, R = 62 :: t
  ·obtain ⟨t1, rfl⟩ := h62
   refine Calls.mono (take_yes3 rb l 62 62 (by decide) t1 W2 HR2.out (by have := HLR.out; simp only [List.length_cons] at this; omega)) ?_
   rintro e W3 ⟨rfl, hr3, hb3⟩
   have HR3 := hid hr3
   have HB3 := hid (HB2.out.trans hb3)
   have HBX3 := hid (HBX2.out.but hb3 HCR.out)
   clear hr3 hb3
   go_wp2_with fail
   by_cases h61 : ∃ t, t1 = 61 :: t
   ·obtain ⟨t2, rfl⟩ := h61
    refine Calls.mono (take_yes3 rb l 61 61 (by decide) t2 W3 HR3.out (by have := HLR.out; simp only [List.length_cons] at this; omega)) ?_
    rintro e W4 ⟨rfl, hr4, hb4⟩
    have HR4 := hid hr4
    have HB4 := hid (HB3.out.trans hb4)
    have HBX4 := hid (HBX3.out.but hb4 HCR.out)
    clear hr4 hb4
    go_wp2_with fail
    refine Calls.mono (word_any rb l t2 W4 HR4.out (by have := HLR.out; (try simp only [List.length_cons] at this); omega)) ?_
    rintro e W5 ⟨rfl, hr5, hb5⟩
    have HR5 := hid hr5
    have HB5 := hid (HB4.out.trans hb5)
    have HBX5 := hid (HBX4.out.but hb5 HCR.out)
    clear hr5 hb5
    have HEM : Hid (O = _) := hid (HEL.out.trans (elseP_more (Ar.word s) t2 l))
    have HW2 := hid (Ar.word_len t2)
    obtain ⟨T, hT⟩ : ∃ T, bts (Ar.word t2) = T := ⟨_, rfl⟩
    have HPA : Hid (∀ W, Env W → Calls Tryz.prog 67 #[.string T, .int .i64 10, .int .i64 64] W (ParseQ W (Ar.word t2))) := hid (fun W hW => by rw [← hT]; exact Parse_any (Ar.word t2) W (by have := HW2.out; have := HLR.out; simp only [List.length_cons] at this; omega) hW)
    rw [hT]
    clear hT
    go_wp2_with fail
    refine Calls.mono (HPA.out W5 (HEV.out W5 HB5.out)) ?_
    rintro e W6 ⟨hb6, hq6⟩
    have HB6 := hid (HB5.out.trans (But.ofBelow hb6 lr))
    have HBX6 := hid (HBX5.out.but (But.ofBelow (rb := rb) hb6 lr) HCR.out)
    have HR6 := hid (HR5.out.step hb6 HR5.out.lt)
    clear hb6
    cases hN : numB (Ar.word t2) with
    | none =>
     rw [hN] at hq6
     obtain ⟨n, te, pe, rfl⟩ := hq6
     have HP : Hid (O = none) := hid (by rw [HEM.out, hN])
     clear hN
     have r0 := HBX6.out.r0
     have r1 := HBX6.out.r1
     have r2 := HBX6.out.r2
     have r3 := HBX6.out.r3
     have r4 := HBX6.out.r4
     have q0 := HBX6.out.fz 0
     have q1 := HBX6.out.fz 1
     have q2 := HBX6.out.fz 2
     have q3 := HBX6.out.fz 3
     have q4 := HBX6.out.fz 4
     have hcl := HBX6.out.lt
     have hcl1 : c < W6.heap.size + 1 := Nat.lt_succ_of_lt hcl
     go_upto_region 16 with fail
     go_region
     go_wp2_with fail
     refine bodyPost_ret (v := .tuple #[.agg #[.int .i64 3, .string A, .string ⟨#[]⟩, .int .i64 n, .slice none 0 0], .bool false]) (by simp [results, Tryz.results69, go_sem, cell_set, r0, r1, r2, r3, r4, hcl, hcl1]) rfl ?_
     show AskQ rb w _ _ (five W6 c (.int .i64 3) (.string A) (.string ⟨#[]⟩) (.int .i64 n) (.slice none 0 0)).drew
     rw [HP.out]
     exact ⟨(five_but HB6.out (Nat.le_of_eq HC.out.symm) _ _ _ _ _).drew, _, rfl, ⟨_, _, _, _, _, _, _, rfl⟩, Ar.rest t2, l, by have := Ar.rest_len t2; have := HLR.out; simp only [List.length_cons] at this; omega, (HR6.out.five HCR.out _ _ _ _ _).drew⟩
    | some n =>
     rw [hN] at hq6
     obtain rfl := hq6
     have HP : Hid (O = some (.mk 3 (Ar.word s) [] n [], Ar.rest t2, l)) := hid (by rw [HEM.out, hN])
     clear hN
     have r0 := HBX6.out.r0
     have r1 := HBX6.out.r1
     have r2 := HBX6.out.r2
     have r3 := HBX6.out.r3
     have r4 := HBX6.out.r4
     have q0 := HBX6.out.fz 0
     have q1 := HBX6.out.fz 1
     have q2 := HBX6.out.fz 2
     have q3 := HBX6.out.fz 3
     have q4 := HBX6.out.fz 4
     have hcl := HBX6.out.lt
     have hcl1 : c < W6.heap.size + 1 := Nat.lt_succ_of_lt hcl
     go_upto_region 16 with fail
     go_region
     go_wp2_with fail
     refine bodyPost_ret (v := .tuple #[.agg #[.int .i64 3, .string A, .string ⟨#[]⟩, .int .i64 n, .slice none 0 0], .bool true]) (by simp [results, Tryz.results69, go_sem, cell_set, r0, r1, r2, r3, r4, hcl, hcl1]) rfl ?_
     show AskQ rb w _ _ (five W6 c (.int .i64 3) (.string A) (.string ⟨#[]⟩) (.int .i64 n) (.slice none 0 0)).drew
     rw [HP.out]
     refine ⟨(five_but HB6.out (Nat.le_of_eq HC.out.symm) _ _ _ _ _).drew, _, rfl, ⟨_, _, _, _, _, _, _, rfl⟩, ?_, (HR6.out.five HCR.out _ _ _ _ _).drew⟩
     rw [← HA.out]
     exact leaf_vp 3 (Ar.word s) [] n (by have := HLA.out; omega) (by simp)
   have HN61 : Hid (∀ t, t1 ≠ 61 :: t) := hid (fun t e => h61 ⟨t, e⟩)
   have HP : Hid (O = none) := hid (HEL.out.trans (elseP_no1 HN61.out))
   clear h61
   refine Calls.mono (take_no3 rb l 61 61 (by decide) t1 W3 HR3.out HN61.out) ?_
   rintro e w' ⟨rfl, rfl⟩
   have r0 := HBX3.out.r0
   have r1 := HBX3.out.r1
   have r2 := HBX3.out.r2
   have r3 := HBX3.out.r3
   have r4 := HBX3.out.r4
   have q0 := HBX3.out.fz 0
   have q1 := HBX3.out.fz 1
   have q2 := HBX3.out.fz 2
   have q3 := HBX3.out.fz 3
   have q4 := HBX3.out.fz 4
   have hcl := HBX3.out.lt
   have hcl1 : c < W3.heap.size + 1 := Nat.lt_succ_of_lt hcl
   go_wp2_with fail
   refine bodyPost_ret (v := .tuple #[.agg #[.int .i64 0, .string ⟨#[]⟩, .string ⟨#[]⟩, .int .i64 0, .slice none 0 0], .bool false]) (by simp [results, Tryz.results69, go_sem, cell_set, r0, r1, r2, r3, r4, hcl, hcl1]) rfl ?_
   show AskQ rb w _ _ (five W3 c (.int .i64 0) (.string ⟨#[]⟩) (.string ⟨#[]⟩) (.int .i64 0) (.slice none 0 0))
   rw [HP.out]
   exact ⟨five_but (HB3.out) (Nat.le_of_eq HC.out.symm) _ _ _ _ _, zero5, rfl, five_zero, t1, l, by have := HLR.out; (try simp only [List.length_cons] at this); omega, (HR3.out).five HCR.out _ _ _ _ _⟩
  have HN62 : Hid (∀ t, R ≠ 62 :: t) := hid (fun t e => h62 ⟨t, e⟩)
  clear h62
  refine Calls.mono (take_no3 rb l 62 62 (by decide) R W2 HR2.out HN62.out) ?_
  rintro e w' ⟨rfl, rfl⟩
  go_wp2_with fail
  by_cases h61 : ∃ t, R = 61 :: t
  ·obtain ⟨t, rfl⟩ := h61
   refine Calls.mono (take_yes3 rb l 61 61 (by decide) t W2 HR2.out (by have := HLR.out; simp only [List.length_cons] at this; omega)) ?_
   rintro e W3 ⟨rfl, hr3, hb3⟩
   have HR3 := hid hr3
   have HB3 := hid (HB2.out.trans hb3)
   have HBX3 := hid (HBX2.out.but hb3 HCR.out)
   clear hr3 hb3
   go_wp2_with fail
   refine Calls.mono (word_any rb l t W3 HR3.out (by have := HLR.out; (try simp only [List.length_cons] at this); omega)) ?_
   rintro e W4 ⟨rfl, hr4, hb4⟩
   have HR4 := hid hr4
   have HB4 := hid (HB3.out.trans hb4)
   have HBX4 := hid (HBX3.out.but hb4 HCR.out)
   clear hr4 hb4
   have HP : Hid (O = some (.mk 2 (Ar.word s) (Ar.word t) 0 [], Ar.rest t, l)) := hid (HEL.out.trans (elseP_is _ _ _))
   have HWT := hid (Ar.word_len t)
   obtain ⟨T, hT⟩ : ∃ T, bts (Ar.word t) = T := ⟨_, rfl⟩
   have HT := hid hT
   rw [hT]
   clear hT
   have r0 := HBX4.out.r0
   have r1 := HBX4.out.r1
   have r2 := HBX4.out.r2
   have r3 := HBX4.out.r3
   have r4 := HBX4.out.r4
   have q0 := HBX4.out.fz 0
   have q1 := HBX4.out.fz 1
   have q2 := HBX4.out.fz 2
   have q3 := HBX4.out.fz 3
   have q4 := HBX4.out.fz 4
   have hcl := HBX4.out.lt
   have hcl1 : c < W4.heap.size + 1 := Nat.lt_succ_of_lt hcl
   go_wp2_with fail
   refine bodyPost_ret (v := .tuple #[.agg #[.int .i64 2, .string A, .string T, .int .i64 0, .slice none 0 0], .bool true]) (by simp [results, Tryz.results69, go_sem, cell_set, r0, r1, r2, r3, r4, hcl, hcl1]) rfl ?_
   show AskQ rb w _ _ (five W4 c (.int .i64 2) (.string A) (.string T) (.int .i64 0) (.slice none 0 0))
   rw [HP.out]
   refine ⟨five_but HB4.out (Nat.le_of_eq HC.out.symm) _ _ _ _ _, _, rfl, ⟨_, _, _, _, _, _, _, rfl⟩, ?_, HR4.out.five HCR.out _ _ _ _ _⟩
   rw [← HA.out, ← HT.out]
   exact leaf_vp 2 (Ar.word s) (Ar.word t) 0 (by have := HLA.out; omega) (by have := HWT.out; have := HLR.out; simp only [List.length_cons] at this; omega)
  have HN61 : Hid (∀ t, R ≠ 61 :: t) := hid (fun t e => h61 ⟨t, e⟩)
  have HP : Hid (O = none) := hid (HEL.out.trans (elseP_no2 HN62.out HN61.out))
  clear h61
  refine Calls.mono (take_no3 rb l 61 61 (by decide) R W2 HR2.out HN61.out) ?_
  rintro e w' ⟨rfl, rfl⟩
  have r0 := HBX2.out.r0
  have r1 := HBX2.out.r1
  have r2 := HBX2.out.r2
  have r3 := HBX2.out.r3
  have r4 := HBX2.out.r4
  have q0 := HBX2.out.fz 0
  have q1 := HBX2.out.fz 1
  have q2 := HBX2.out.fz 2
  have q3 := HBX2.out.fz 3
  have q4 := HBX2.out.fz 4
  have hcl := HBX2.out.lt
  have hcl1 : c < W2.heap.size + 1 := Nat.lt_succ_of_lt hcl
  go_wp2_with fail
  refine bodyPost_ret (v := .tuple #[.agg #[.int .i64 0, .string ⟨#[]⟩, .string ⟨#[]⟩, .int .i64 0, .slice none 0 0], .bool false]) (by simp [results, Tryz.results69, go_sem, cell_set, r0, r1, r2, r3, r4, hcl, hcl1]) rfl ?_
  show AskQ rb w _ _ (five W2 c (.int .i64 0) (.string ⟨#[]⟩) (.string ⟨#[]⟩) (.int .i64 0) (.slice none 0 0))
  rw [HP.out]
  exact ⟨five_but (HB2.out) (Nat.le_of_eq HC.out.symm) _ _ _ _ _, zero5, rfl, five_zero, R, l, by have := HLR.out; (try simp only [List.length_cons] at this); omega, (HR2.out).five HCR.out _ _ _ _ _⟩
end Go.Proofs.YtkemlckmfgacdaaGreatDoor
namespace Go.Proofs.YtkemlckmfgacdaaGreatDoor
set_option maxRecDepth 20000
set_option maxHeartbeats 64000000
open Go.ChangeShapes Go.WideShapes Go.ChangeAt Go.RowKit
set_option linter.unusedVariables false
open Tp
theorem add1 (a : Bs) : (⟨#[63]⟩ : ByteArray) ++ bts a = bts (63 :: a) := bts_append [63] a
theorem add2 (a b : Bs) : bts a ++ (⟨#[61]⟩ : ByteArray) ++ bts b = bts (a ++ 61 :: b) := by
 rw [show (⟨#[61]⟩ : ByteArray) = bts [61] from rfl, bts_append, bts_append, List.append_assoc]; rfl
theorem add3 (a b : Bs) : bts a ++ (⟨#[62, 61]⟩ : ByteArray) ++ bts b = bts (a ++ 62 :: 61 :: b) := by
 rw [show (⟨#[62, 61]⟩ : ByteArray) = bts [62, 61] from rfl, bts_append, bts_append, List.append_assoc]; rfl
theorem lab_short {L : Bs} (h : lab L = true) : L.length ≤ 20 := by
 by_cases h2 : 20 < L.length
 ·rw [lab_len (.inr h2)] at h; cases h
 ·omega
theorem unit_short {L : Bs} (h : Ask.unit L = true) : L.length ≤ 20 := by
 unfold Ask.unit at h
 simp only [Bool.or_eq_true, decide_eq_true_eq] at h
 rcases h with (h | h) | h <;> subst h <;> decide
theorem textA (x : Ask) (v : Value) (w : World) (he : x.err = 0) (h3 : x.kind ≤ 3) (hp : Env w) (hx : AskV w x v) : Calls Tryz.prog 58 #[v] w fun e w' => e = .returned (.string (bts (Ar.txt x))) ∧ Below w.heap.size w w' := by
 cases x with
 | mk k ka va nu l =>
 rw [AskV] at hx
 obtain ⟨ad, n, cap, rfl, hrest⟩ := hx
 clear hrest
 obtain ⟨hb0, hes⟩ := Ask.err_zero he
 obtain ⟨hk1, hk6, hlen, hn0, hnu, hnu2, _, _, hu, hl1, hl2⟩ := Ask.bad_zero hb0
 have h3 : k ≤ 3 := h3
 clear hb0 hes hlen he
 have hka : ka.length ≤ 20 := by
  by_cases h : k = 3
  ·exact unit_short (hu h)
  ·exact lab_short (hl1 (by omega))
 obtain ⟨V, hV⟩ : ∃ V, (Ar.txt (Ask.mk k ka va nu l)) = V := ⟨_, rfl⟩
 have HV := hid hV
 rw [hV]
 clear hV
 obtain ⟨a1, ha1⟩ : ∃ a, bts ka = a := ⟨_, rfl⟩
 obtain ⟨a2, ha2⟩ : ∃ a, bts va = a := ⟨_, rfl⟩
 have HA1 := hid ha1
 have HA2 := hid ha2
 have hs1 : a1.size ≤ 20 := by rw [← ha1, bts_size]; exact hka
 rw [ha1, ha2]
 have hb9 : Below w.heap.size w (w.alloc (.cells #[.int .i64 k, .string a1, .string a2, .int .i64 nu, .slice ad n cap] 26)) := (Below.refl _ _).alloc lr _
 have HB9 := hid hb9
 by_cases h1 : k = 1
 ·subst h1
  have HR : Hid ((⟨#[63]⟩ : ByteArray) ++ a1 = bts V) := hid (by rw [← HV.out, ← HA1.out, add1]; rfl)
  have h63 : (⟨#[63]⟩ : ByteArray).size = 1 := rfl
  clear ha1 ha2 hu hl1 hl2 hb9 hk1 hk6 h3 hn0 hnu hnu2
  go_enter Tryz.func58, Tryz.ntmps58
  go_wp2_with fail
  go_ret
  exact ⟨by rw [← HR.out]; rfl, HB9.out⟩
 by_cases h2 : k = 2
 ·have hs2 : a2.size ≤ 20 := by rw [← ha2, bts_size]; exact lab_short (hl2 h2)
  subst h2
  have HR : Hid (a1 ++ (⟨#[61]⟩ : ByteArray) ++ a2 = bts V) := hid (by rw [← HV.out, ← HA1.out, ← HA2.out, add2]; rfl)
  obtain ⟨p1, hp1⟩ : ∃ p, a1 ++ (⟨#[61]⟩ : ByteArray) = p := ⟨_, rfl⟩
  have h61 : (⟨#[61]⟩ : ByteArray).size = 1 := rfl
  have hsp : p1.size ≤ 21 := by rw [← hp1, ByteArray.size_append]; omega
  rw [hp1] at HR
  clear ha1 ha2 hu hl1 hl2 hb9 hk1 hk6 h3 hn0 hnu hnu2
  go_enter Tryz.func58, Tryz.ntmps58
  go_wp2_with fail
  go_ret
  exact ⟨by rw [← HR.out]; rfl, HB9.out⟩
 ·obtain rfl : k = 3 := by omega
  obtain ⟨u, rfl⟩ : ∃ u : Nat, nu = (u : Int) := ⟨nu.toNat, by omega⟩
  have hu9 : u ≤ 1099511627776 := by omega
  obtain ⟨D, hD⟩ : ∃ D, bts (Nt.dec u) = D := ⟨_, rfl⟩
  have hsd : D.size ≤ 19 := by rw [← hD, bts_size]; exact Nt.dec_len 18 u (by omega)
  have HR : Hid (a1 ++ (⟨#[62, 61]⟩ : ByteArray) ++ D = bts V) := hid (by rw [← HV.out, ← HA1.out, ← hD, add3]; rfl)
  obtain ⟨p1, hp1⟩ : ∃ p, a1 ++ (⟨#[62, 61]⟩ : ByteArray) = p := ⟨_, rfl⟩
  have h62 : (⟨#[62, 61]⟩ : ByteArray).size = 2 := rfl
  have hsp : p1.size ≤ 22 := by rw [← hp1, ByteArray.size_append]; omega
  rw [hp1] at HR
  have hnn1 : ¬ 9223372036854775807 < a1.size + 2 := by omega
  have hnn2 : ¬ 9223372036854775807 < p1.size + D.size := by omega
  obtain ⟨W0, hW0⟩ : ∃ W, W = w.alloc (.cells #[.int .i64 3, .string a1, .string a2, .int .i64 (u : Int), .slice ad n cap] 26) := ⟨_, rfl⟩
  rw [← hW0] at HB9
  obtain ⟨cx, hcx⟩ : ∃ c, c = w.heap.size := ⟨_, rfl⟩
  have d1 : W0.cell? ⟨cx, 1, none⟩ = some (.string a1) := by rw [hcx, hW0]; simp
  have d3 : W0.cell? ⟨cx, 3, none⟩ = some (.int .i64 (u : Int)) := by rw [hcx, hW0]; simp
  have d0 : W0.cell? ⟨cx, 0, none⟩ = some (.int .i64 3) := by rw [hcx, hW0]; simp
  have hc0 : cx < W0.heap.size := by rw [hcx, hW0]; simp
  have HC : Hid (∀ W, Below W0.heap.size W0 W → Calls Tryz.prog 78 #[.int .i64 (u : Int), .int .i64 10] W fun e w' => e = .returned (.string D) ∧ Below W.heap.size W w') := hid (fun W hW => by rw [← hD]; exact FormatIntN_any u W (by omega) ((hp.below HB9.out lr).below hW lr))
  clear ha1 ha2 hu hl1 hl2 hb9 hk1 hk6 h3 hn0 hnu hnu2 hD h1 h2
  have d1d : W0.drew.cell? ⟨cx, 1, none⟩ = some (.string a1) := d1
  have d3d : W0.drew.cell? ⟨cx, 3, none⟩ = some (.int .i64 (u : Int)) := d3
  go_enter Tryz.func58, Tryz.ntmps58
  go_upto_region 7 with fail
  rw [← hW0, ← hcx]
  clear hW0 hcx
  first | (go_region_held3 (fun W => W.cell? ⟨cx, 1, none⟩ = some (.string a1) ∧ W.cell? ⟨cx, 3, none⟩ = some (.int .i64 (u : Int))) (first | with_reducible exact ⟨d1, d3⟩ | with_reducible exact ⟨d1d, d3d⟩ | with_reducible exact ⟨d1a, d3a⟩ | go_keep) (first | (go_at_call 78; refine Calls.mono (HC.out _ (by first | exact Below.refl _ _ | go_grown)) ?_; rintro e w1 ⟨rfl, hb1⟩; have d1a := (hb1.cell (p := ⟨cx, 1, none⟩) hc0).trans d1; have d3a := (hb1.cell (p := ⟨cx, 3, none⟩) hc0).trans d3))) | fail
  all_goals
   go_wp2_with fail
   go_ret
   exact ⟨by rw [← HR.out]; rfl, HB9.out.trans (((show Below W0.heap.size W0 W0.drew from by go_grown).trans hb1).mono HB9.out.size)⟩
end Go.Proofs.YtkemlckmfgacdaaGreatDoor
