/- Contract: the program's reader of an ask, as deep as it goes. -/
import Derived.Test.YtkemlckmfgacdaaGreatDoorJobP4
import Derived.Test.YtkemlckmfgacdaaGreatDoorJobP1
import Derived.Test.YtkemlckmfgacdaaGreatDoorJobP3
import Derived.Deep.RegionHeld3
import Derived.Deep.CutBlock
import Derived.Deep.DeepCutAuto
namespace Go.Proofs.YtkemlckmfgacdaaGreatDoor
open Go.ChangeShapes Go.WideShapes Go.ChangeAt Go.RowKit
set_option linter.unusedVariables false
set_option linter.unusedSimpArgs false
open Tp
set_option maxRecDepth 20000 in
set_option maxHeartbeats 4000000 in
theorem ask_nil (rb N : Nat) (s : Bs) (w : World) (hs : s.length ≤ 2000) (hr : RdrW rb s 0 w) : Calls Tryz.prog 69 #[.pointer (some ⟨rb, 0, none⟩)] w (AskQ rb w (Ar.askP N 0 s)) := by
  have HP : Hid (Ar.askP N 0 s = none) := Lib.hid (by cases N <;> simp [Ar.askP])
  obtain ⟨c, hc⟩ : ∃ c, c = w.heap.size := ⟨_, rfl⟩
  obtain ⟨W0, hW0⟩ : ∃ W, W = w.alloc (.cells #[.int .i64 0, .string ⟨#[]⟩, .string ⟨#[]⟩, .int .i64 0, .slice none 0 0] 26) := ⟨_, rfl⟩
  have HBX : Hid (Box5 c W0) := Lib.hid (by rw [hW0]; exact Box5.top hc)
  have HB0 : Hid (But rb w W0) := Lib.hid (by rw [hW0]; exact (But.refl _ _).alloc _)
  have HR0 : Hid (RdrW rb s 0 W0) := Lib.hid (by rw [hW0]; exact hr.alloc _)
  have HC := Lib.hid hc
  have HCR : Hid (c ≠ rb) := Lib.hid (by have := hr.lt; omega)
  have HSL := Lib.hid hs
  have d1 := HR0.out.l'
  have hrl := HR0.out.lt
  clear hs hr
  go_enter Tryz.func69, Tryz.ntmps69
  go_upto_region 1 with fail
  rw [← hW0, ← hc]
  clear hW0 hc
  have r0 := HBX.out.r0
  have r1 := HBX.out.r1
  have r2 := HBX.out.r2
  have r3 := HBX.out.r3
  have r4 := HBX.out.r4
  have q0 := HBX.out.fz 0
  have q1 := HBX.out.fz 1
  have q2 := HBX.out.fz 2
  have q3 := HBX.out.fz 3
  have q4 := HBX.out.fz 4
  have hcl := HBX.out.lt
  have hcl1 : c < W0.heap.size + 1 := Nat.lt_succ_of_lt hcl
  go_wp2_with fail
  refine bodyPost_ret (v := .tuple #[.agg #[.int .i64 0, .string ⟨#[]⟩, .string ⟨#[]⟩, .int .i64 0, .slice none 0 0], .bool false]) (by simp [results, Tryz.results69, go_sem, cell_set, r0, r1, r2, r3, r4, hcl, hcl1]) rfl ?_
  show AskQ rb w _ _ (five W0 c (.int .i64 0) (.string ⟨#[]⟩) (.string ⟨#[]⟩) (.int .i64 0) (.slice none 0 0))
  rw [HP.out]
  exact ⟨five_but (HB0.out) (Nat.le_of_eq HC.out.symm) _ _ _ _ _, zero5, rfl, five_zero, s, 0, by have := HSL.out; (try simp only [List.length_cons] at this); omega, (HR0.out).five HCR.out _ _ _ _ _⟩
set_option maxRecDepth 20000 in
set_option maxHeartbeats 64000000 in
theorem ask_all (rb : Nat) : ∀ (N left : Nat) (s : Bs) (w : World), left ≤ N → left ≤ 60 → s.length ≤ 2000 → (∀ W, But rb w W → Env W) → RdrW rb s left w → Calls Tryz.prog 69 #[.pointer (some ⟨rb, 0, none⟩)] w (AskQ rb w (Ar.askP N left s)) := by
  intro N
  induction N with
  | zero =>
    intro left s w hN hl6 hs hE hr
    obtain rfl : left = 0 := by omega
    exact ask_nil rb 0 s w hs hr
  | succ N ih =>
    intro left s w hN hl6 hs hE hr
    by_cases hl0 : left = 0
    · subst hl0; exact ask_nil rb (N + 1) s w hs hr
    obtain ⟨l, rfl⟩ : ∃ l, left = l + 1 := ⟨left - 1, by omega⟩
    have HIH : Hid (∀ s' w', s'.length ≤ 2000 → (∀ W, But rb w' W → Env W) → RdrW rb s' l w' → Calls Tryz.prog 69 #[.pointer (some ⟨rb, 0, none⟩)] w' (AskQ rb w' (Ar.askP N l s'))) := Lib.hid (fun s' w' h1 h2 h3 => ih l s' w' (by omega) (by omega) h1 h2 h3)
    have HTW : Hid (∀ s' w', s'.length ≤ 2000 → (∀ W, But rb w' W → Env W) → RdrW rb s' l w' → Calls Tryz.prog 93 #[.pointer (some ⟨rb, 0, none⟩)] w' (AskQ rb w' (twoP N l s'))) := Lib.hid (fun s' w' h1 h2 h3 => two_of rb N l s' w' h1 h2 h3 (fun left' s2 w2 g1 g2 g3 g4 => ih left' s2 w2 (by omega) (by omega) g2 g3 g4))
    obtain ⟨c, hc⟩ : ∃ c, c = w.heap.size := ⟨_, rfl⟩
    obtain ⟨W0, hW0⟩ : ∃ W, W = w.alloc (.cells #[.int .i64 0, .string ⟨#[]⟩, .string ⟨#[]⟩, .int .i64 0, .slice none 0 0] 26) := ⟨_, rfl⟩
    have hbx0 : Box5 c W0 := by rw [hW0]; exact Box5.top hc
    have hbt0 : But rb w W0 := by rw [hW0]; exact (But.refl _ _).alloc _
    have hrd0 : RdrW rb s (l + 1) W0 := by rw [hW0]; exact hr.alloc _
    have hcr : c ≠ rb := by have := hr.lt; omega
    obtain ⟨W1, hW1⟩ : ∃ W, W = W0.setCell ⟨rb, 1, none⟩ (.int .i64 (l : Int)) := ⟨_, rfl⟩
    have HB1 : Hid (But rb w W1) := Lib.hid (by rw [hW1]; exact hbt0.setCell (a := ⟨rb, 1, none⟩) (.inl rfl) _)
    have HBX1 : Hid (Box5 c W1) := Lib.hid (by rw [hW1]; exact hbx0.but ((But.refl rb W0).setCell (a := ⟨rb, 1, none⟩) (.inl rfl) _) hcr)
    have HR1 : Hid (RdrW rb s l W1) := Lib.hid (by rw [hW1]; exact hrd0.putL l)
    have HCS : Hid (c < W1.heap.size ∧ w.heap.size ≤ W1.heap.size) := Lib.hid ⟨HBX1.out.lt, HB1.out.size⟩
    have HC := Lib.hid hc
    have HCR := Lib.hid hcr
    have HEV := Lib.hid hE
    have HSL := Lib.hid hs
    have d1 : W0.cell? ⟨rb, 1, none⟩ = some (.int .i64 ((l : Int) + 1)) := hrd0.l'
    have f1 := hrd0.f1
    have hrl := hrd0.lt
    have hz : (((l : Int) + 1) == 0) = false := by simp only [beq_eq_false_iff_ne]; omega
    have hl60 : (l : Int) ≤ 9223372036854775806 := by omega
    obtain ⟨O, hO⟩ : ∃ O, Ar.askP (N + 1) (l + 1) s = O := ⟨_, rfl⟩
    have HO := Lib.hid hO
    rw [hO]
    clear ih hl0 hbx0 hbt0 hrd0 hcr hE hs hr hO hN
    go_enter Tryz.func69, Tryz.ntmps69
    go_upto_region 1 with fail
    rw [← hW0, ← hc]
    clear hW0 hc
    go_upto_region 4 with fail
    rw [← hW1]
    clear hW1 d1 f1 hz hl60 hrl
    go_wp2_with fail
    by_cases h63 : ∃ t, s = 63 :: t
    · obtain ⟨t, rfl⟩ := h63
      refine Calls.mono (take_yes3 rb l 63 63 (by decide) t W1 HR1.out (by have := HSL.out; simp only [List.length_cons] at this; omega)) ?_
      rintro e W2 ⟨rfl, hr2, hb2⟩
      have HR2 := Lib.hid hr2
      have HB2 := Lib.hid (HB1.out.trans hb2)
      have HBX2 := Lib.hid (HBX1.out.but hb2 HCR.out)
      clear hr2 hb2
      go_wp2_with fail
      refine Calls.mono (word_any rb l t W2 HR2.out (by have := HSL.out; (try simp only [List.length_cons] at this); omega)) ?_
      rintro e W3 ⟨rfl, hr3, hb3⟩
      have HR3 := Lib.hid hr3
      have HB3 := Lib.hid (HB2.out.trans hb3)
      have HBX3 := Lib.hid (HBX2.out.but hb3 HCR.out)
      clear hr3 hb3
      have HP : Hid (O = some (.mk 1 (Ar.word t) [] 0 [], Ar.rest t, l)) := Lib.hid (by rw [← HO.out]; simp [Ar.askP])
      have HL := Lib.hid (Ar.word_len t)
      obtain ⟨A, hA⟩ : ∃ A, bts (Ar.word t) = A := ⟨_, rfl⟩
      have HA := Lib.hid hA
      rw [hA]
      clear hA
      have r0 := HBX3.out.r0
      have r1 := HBX3.out.r1
      have r2 := HBX3.out.r2
      have r3 := HBX3.out.r3
      have r4 := HBX3.out.r4
      have q0 := HBX3.out.fz 0
      have q1 := HBX3.out.fz 1
      have q2 := HBX3.out.fz 2
      have q3 := HBX3.out.fz 3
      have q4 := HBX3.out.fz 4
      have hcl := HBX3.out.lt
      have hcl1 : c < W3.heap.size + 1 := Nat.lt_succ_of_lt hcl
      go_wp2_with fail
      refine bodyPost_ret (v := .tuple #[.agg #[.int .i64 1, .string A, .string ⟨#[]⟩, .int .i64 0, .slice none 0 0], .bool true]) (by simp [results, Tryz.results69, go_sem, cell_set, r0, r1, r2, r3, r4, hcl, hcl1]) rfl ?_
      show AskQ rb w _ _ (five W3 c (.int .i64 1) (.string A) (.string ⟨#[]⟩) (.int .i64 0) (.slice none 0 0))
      rw [HP.out]
      refine ⟨five_but HB3.out (Nat.le_of_eq HC.out.symm) _ _ _ _ _, _, rfl, ⟨_, _, _, _, _, _, _, rfl⟩, ?_, HR3.out.five HCR.out _ _ _ _ _⟩
      rw [← HA.out]
      exact leaf_vp 1 (Ar.word t) [] 0 (by have := HL.out; have := HSL.out; simp only [List.length_cons] at this; omega) (by simp)
    have HN63 : Hid (∀ t, s ≠ 63 :: t) := Lib.hid (fun t e => h63 ⟨t, e⟩)
    clear h63
    refine Calls.mono (take_no3 rb l 63 63 (by decide) s W1 HR1.out HN63.out) ?_
    rintro e w' ⟨rfl, rfl⟩
    go_wp2_with fail
    by_cases h33 : ∃ t, s = 33 :: t
    · obtain ⟨t, rfl⟩ := h33
      refine Calls.mono (take_yes3 rb l 33 33 (by decide) t W1 HR1.out (by have := HSL.out; simp only [List.length_cons] at this; omega)) ?_
      rintro e W2 ⟨rfl, hr2, hb2⟩
      have HR2 := Lib.hid hr2
      have HB2 := Lib.hid (HB1.out.trans hb2)
      have HBX2 := Lib.hid (HBX1.out.but hb2 HCR.out)
      clear hr2 hb2
      go_wp2_with fail
      refine Calls.mono (HIH.out t W2 (by have := HSL.out; simp only [List.length_cons] at this; omega) (fun W h => HEV.out W (HB2.out.trans h)) HR2.out) ?_
      rintro e W3 hq
      obtain ⟨hb3, bv, x0, x1, x2, x3, xd, xl, xc, rfl, hq3⟩ := hq.form
      have HQ3 := Lib.hid hq3
      have HB3 := Lib.hid (HB2.out.trans hb3)
      have HBX3 := Lib.hid (HBX2.out.but hb3 HCR.out)
      have HS3 := Lib.hid hb3.size
      clear hb3 hq hq3
      go_upto_region 8 with fail
      obtain ⟨W4, hW4⟩ : ∃ W, W = W3.alloc (.cells #[.int .i64 x0, .string x1, .string x2, .int .i64 x3, .slice xd xl xc] 26) := ⟨_, rfl⟩
      obtain ⟨d, hd⟩ : ∃ d, d = W3.heap.size := ⟨_, rfl⟩
      have HBX4 : Hid (Box5 c W4) := Lib.hid (by rw [hW4]; exact HBX3.out.but ((But.refl rb W3).alloc _) HCR.out)
      have bd0 : W4.cell? ⟨d, 0, none⟩ = some (.int .i64 x0) := by rw [hW4]; exact (cell_top _ _ _ _ _ hd).trans rfl
      have bd1 : W4.cell? ⟨d, 1, none⟩ = some (.string x1) := by rw [hW4]; exact (cell_top _ _ _ _ _ hd).trans rfl
      have bd2 : W4.cell? ⟨d, 2, none⟩ = some (.string x2) := by rw [hW4]; exact (cell_top _ _ _ _ _ hd).trans rfl
      have bd3 : W4.cell? ⟨d, 3, none⟩ = some (.int .i64 x3) := by rw [hW4]; exact (cell_top _ _ _ _ _ hd).trans rfl
      have bd4 : W4.cell? ⟨d, 4, none⟩ = some (.slice xd xl xc) := by rw [hW4]; exact (cell_top _ _ _ _ _ hd).trans rfl
      have hdld : d < W4.heap.size := by rw [hW4, hd]; simp
      rw [← hW4, ← hd]
      have HW4 := Lib.hid hW4
      have HDd := Lib.hid hd
      clear hW4 hd
      have HQ4 : Hid (AskR rb w O bv (.agg #[.int .i64 4, .string ⟨#[]⟩, .string ⟨#[]⟩, .int .i64 0, .slice (some ⟨W4.heap.size, 0, none⟩) 1 1]) ((five W4 c (.int .i64 4) (.string ⟨#[]⟩) (.string ⟨#[]⟩) (.int .i64 0) (.slice (some ⟨W4.heap.size, 0, none⟩) 1 1)).alloc (.cells #[.int .i64 x0, .string x1, .string x2, .int .i64 x3, .slice xd xl xc] 26))) := Lib.hid (by
        have hq3 := HQ3.out
        have hOo := HO.out
        cases hp : Ar.askP N l t with
        | none =>
          rw [hp] at hq3
          obtain ⟨h1, r, l2, h2, h3⟩ := hq3
          have hP : O = none := by rw [← hOo]; simp [Ar.askP, hp]
          rw [hP]
          exact ⟨h1, r, l2, h2, (((HW4.out ▸ h3.alloc _ : RdrW rb r l2 W4)).five HCR.out _ _ _ _ _).alloc _⟩
        | some p =>
          obtain ⟨y, r, l2⟩ := p
          rw [hp] at hq3
          obtain ⟨h1, h2, h3⟩ := hq3
          have hP : O = some (.mk 4 [] [] 0 [y], r, l2) := by rw [← hOo]; simp [Ar.askP, hp]
          rw [hP]
          have h4s : W3.heap.size ≤ W4.heap.size := by rw [HW4.out]; simp
          refine ⟨h1, tree_one (Nat.le_trans HS3.out h4s) HBX2.out.lt HB2.out.size ?_ _ _ _ _ _, (((HW4.out ▸ h3.alloc _ : RdrW rb r l2 W4)).five HCR.out _ _ _ _ _).alloc _⟩
          exact AskVP.stays (fun b h => h) h4s (fun b _ hb => by rw [HW4.out]; exact Below.heap_alloc _ _ _ hb) _ _ h2)
      have HB4 : Hid (But rb w W4) := Lib.hid (by rw [HW4.out]; exact HB3.out.alloc _)
      have r0 := HBX4.out.r0
      have r1 := HBX4.out.r1
      have r2 := HBX4.out.r2
      have r3 := HBX4.out.r3
      have r4 := HBX4.out.r4
      have q0 := HBX4.out.fz 0
      have q1 := HBX4.out.fz 1
      have q2 := HBX4.out.fz 2
      have q3 := HBX4.out.fz 3
      have q4 := HBX4.out.fz 4
      have hcl := HBX4.out.lt
      have hcl1 : c < W4.heap.size + 1 := Nat.lt_succ_of_lt hcl
      go_wp2_with fail
      refine bodyPost_ret (v := .tuple #[.agg #[.int .i64 4, .string ⟨#[]⟩, .string ⟨#[]⟩, .int .i64 0, .slice (some ⟨W4.heap.size, 0, none⟩) 1 1], .bool bv]) (by simp [results, Tryz.results69, go_sem, cell_set, r0, r1, r2, r3, r4, hcl, hcl1]) rfl ?_
      exact AskQ.mk' ((five_but HB4.out (Nat.le_of_eq HC.out.symm) _ _ _ _ _).alloc _) HQ4.out
    have HN33 : Hid (∀ t, s ≠ 33 :: t) := Lib.hid (fun t e => h33 ⟨t, e⟩)
    clear h33
    refine Calls.mono (take_no3 rb l 33 33 (by decide) s W1 HR1.out HN33.out) ?_
    rintro e w' ⟨rfl, rfl⟩
    go_wp2_with fail
    by_cases h40 : ∃ t, s = 40 :: t
    · obtain ⟨t, rfl⟩ := h40
      refine Calls.mono (take_yes3 rb l 40 40 (by decide) t W1 HR1.out (by have := HSL.out; simp only [List.length_cons] at this; omega)) ?_
      rintro e W2 ⟨rfl, hr2, hb2⟩
      have HR2 := Lib.hid hr2
      have HB2 := Lib.hid (HB1.out.trans hb2)
      have HBX2 := Lib.hid (HBX1.out.but hb2 HCR.out)
      clear hr2 hb2
      go_wp2_with fail
      refine Calls.mono (HTW.out t W2 (by have := HSL.out; simp only [List.length_cons] at this; omega) (fun W h => HEV.out W (HB2.out.trans h)) HR2.out) ?_
      rintro e W3 hq
      obtain ⟨hb3, bv, x0, x1, x2, x3, xd, xl, xc, rfl, hq3⟩ := hq.form
      have HQ3 := Lib.hid hq3
      have HB3 := Lib.hid (HB2.out.trans hb3)
      have HBX3 := Lib.hid (HBX2.out.but hb3 HCR.out)
      have hOT : O = twoP N l t := by rw [← HO.out]; exact askP_two N l t
      have HOT := Lib.hid hOT
      clear hb3 hq hq3 hOT
      have HQ4 : Hid (AskR rb w O bv (.agg #[.int .i64 x0, .string x1, .string x2, .int .i64 x3, .slice xd xl xc]) (five W3 c (.int .i64 x0) (.string x1) (.string x2) (.int .i64 x3) (.slice xd xl xc))) := Lib.hid (by
        have hq3 := HQ3.out
        have hOo := HOT.out
        cases hp : twoP N l t with
        | none =>
          rw [hp] at hq3 hOo
          obtain ⟨h1, r, l2, h2, h3⟩ := hq3
          rw [hOo]
          exact ⟨h1, r, l2, h2, h3.five HCR.out _ _ _ _ _⟩
        | some p =>
          obtain ⟨y, r, l2⟩ := p
          rw [hp] at hq3 hOo
          obtain ⟨h1, h2, h3⟩ := hq3
          rw [hOo]
          refine ⟨h1, ?_, h3.five HCR.out _ _ _ _ _⟩
          exact AskVP.stays (fun b h => Nat.le_trans HB2.out.size h) (by rw [five_size]; exact Nat.le_refl _) (fun b h _ => five_heap _ _ _ _ _ _ _ b (fun e => by have := HBX2.out.lt; omega)) _ _ h2)
      have r0 := HBX3.out.r0
      have r1 := HBX3.out.r1
      have r2 := HBX3.out.r2
      have r3 := HBX3.out.r3
      have r4 := HBX3.out.r4
      have q0 := HBX3.out.fz 0
      have q1 := HBX3.out.fz 1
      have q2 := HBX3.out.fz 2
      have q3 := HBX3.out.fz 3
      have q4 := HBX3.out.fz 4
      have hcl := HBX3.out.lt
      have hcl1 : c < W3.heap.size + 1 := Nat.lt_succ_of_lt hcl
      go_wp2_with fail
      refine bodyPost_ret (v := .tuple #[.agg #[.int .i64 x0, .string x1, .string x2, .int .i64 x3, .slice xd xl xc], .bool bv]) (by simp [results, Tryz.results69, go_sem, cell_set, r0, r1, r2, r3, r4, hcl, hcl1]) rfl ?_
      exact AskQ.mk' (five_but HB3.out (Nat.le_of_eq HC.out.symm) _ _ _ _ _) HQ4.out
    have HN40 : Hid (∀ t, s ≠ 40 :: t) := Lib.hid (fun t e => h40 ⟨t, e⟩)
    have HEL : Hid (O = elseP (Ar.word s) (Ar.rest s) l) := Lib.hid (HO.out.symm.trans (askP_else (N := N) (left := l) HN63.out HN33.out HN40.out))
    clear h40
    refine Calls.mono (take_no3 rb l 40 40 (by decide) s W1 HR1.out HN40.out) ?_
    rintro e w' ⟨rfl, rfl⟩
    go_wp2_with fail
    refine Calls.mono (word_any rb l s W1 HR1.out (by have := HSL.out; (try simp only [List.length_cons] at this); omega)) ?_
    rintro e W2 ⟨rfl, hr2, hb2⟩
    have HR2 := Lib.hid hr2
    have HB2 := Lib.hid (HB1.out.trans hb2)
    have HBX2 := Lib.hid (HBX1.out.but hb2 HCR.out)
    clear hr2 hb2
    have HL := Lib.hid (Ar.word_len s)
    have HRLN := Lib.hid (Ar.rest_len s)
    obtain ⟨R, hR⟩ : ∃ R, Ar.rest s = R := ⟨_, rfl⟩
    rw [hR] at HEL HRLN HR2
    obtain ⟨A, hA⟩ : ∃ A, bts (Ar.word s) = A := ⟨_, rfl⟩
    have HA := Lib.hid hA
    rw [hA]
    have HLR : Hid (R.length ≤ 2000) := Lib.hid (by have := HRLN.out; have := HSL.out; omega)
    have HLA : Hid ((Ar.word s).length ≤ 2000) := Lib.hid (by have := HL.out; have := HSL.out; omega)
    clear hA hR
    go_wp2_with fail
    by_cases h62 : ∃ t, R = 62 :: t
    · obtain ⟨t1, rfl⟩ := h62
      refine Calls.mono (take_yes3 rb l 62 62 (by decide) t1 W2 HR2.out (by have := HLR.out; simp only [List.length_cons] at this; omega)) ?_
      rintro e W3 ⟨rfl, hr3, hb3⟩
      have HR3 := Lib.hid hr3
      have HB3 := Lib.hid (HB2.out.trans hb3)
      have HBX3 := Lib.hid (HBX2.out.but hb3 HCR.out)
      clear hr3 hb3
      go_wp2_with fail
      by_cases h61 : ∃ t, t1 = 61 :: t
      · obtain ⟨t2, rfl⟩ := h61
        refine Calls.mono (take_yes3 rb l 61 61 (by decide) t2 W3 HR3.out (by have := HLR.out; simp only [List.length_cons] at this; omega)) ?_
        rintro e W4 ⟨rfl, hr4, hb4⟩
        have HR4 := Lib.hid hr4
        have HB4 := Lib.hid (HB3.out.trans hb4)
        have HBX4 := Lib.hid (HBX3.out.but hb4 HCR.out)
        clear hr4 hb4
        go_wp2_with fail
        refine Calls.mono (word_any rb l t2 W4 HR4.out (by have := HLR.out; (try simp only [List.length_cons] at this); omega)) ?_
        rintro e W5 ⟨rfl, hr5, hb5⟩
        have HR5 := Lib.hid hr5
        have HB5 := Lib.hid (HB4.out.trans hb5)
        have HBX5 := Lib.hid (HBX4.out.but hb5 HCR.out)
        clear hr5 hb5
        have HEM : Hid (O = _) := Lib.hid (HEL.out.trans (elseP_more (Ar.word s) t2 l))
        have HW2 := Lib.hid (Ar.word_len t2)
        obtain ⟨T, hT⟩ : ∃ T, bts (Ar.word t2) = T := ⟨_, rfl⟩
        have HPA : Hid (∀ W, Env W → Calls Tryz.prog 67 #[.string T, .int .i64 10, .int .i64 64] W (ParseQ W (Ar.word t2))) := Lib.hid (fun W hW => by rw [← hT]; exact Parse_any (Ar.word t2) W (by have := HW2.out; have := HLR.out; simp only [List.length_cons] at this; omega) hW)
        rw [hT]
        clear hT
        go_wp2_with fail
        refine Calls.mono (HPA.out W5 (HEV.out W5 HB5.out)) ?_
        rintro e W6 ⟨hb6, hq6⟩
        have HB6 := Lib.hid (HB5.out.trans (But.ofBelow hb6 (Nat.le_refl _)))
        have HBX6 := Lib.hid (HBX5.out.but (But.ofBelow (rb := rb) hb6 (Nat.le_refl _)) HCR.out)
        have HR6 := Lib.hid (HR5.out.step hb6 HR5.out.lt)
        clear hb6
        cases hN : numB (Ar.word t2) with
        | none =>
          rw [hN] at hq6
          obtain ⟨n, te, pe, rfl⟩ := hq6
          have HP : Hid (O = none) := Lib.hid (by rw [HEM.out, hN])
          clear hN
          have r0 := HBX6.out.r0
          have r1 := HBX6.out.r1
          have r2 := HBX6.out.r2
          have r3 := HBX6.out.r3
          have r4 := HBX6.out.r4
          have q0 := HBX6.out.fz 0
          have q1 := HBX6.out.fz 1
          have q2 := HBX6.out.fz 2
          have q3 := HBX6.out.fz 3
          have q4 := HBX6.out.fz 4
          have hcl := HBX6.out.lt
          have hcl1 : c < W6.heap.size + 1 := Nat.lt_succ_of_lt hcl
          go_upto_region 16 with fail
          go_region
          go_wp2_with fail
          refine bodyPost_ret (v := .tuple #[.agg #[.int .i64 3, .string A, .string ⟨#[]⟩, .int .i64 n, .slice none 0 0], .bool false]) (by simp [results, Tryz.results69, go_sem, cell_set, r0, r1, r2, r3, r4, hcl, hcl1]) rfl ?_
          show AskQ rb w _ _ (five W6 c (.int .i64 3) (.string A) (.string ⟨#[]⟩) (.int .i64 n) (.slice none 0 0)).drew
          rw [HP.out]
          exact ⟨(five_but HB6.out (Nat.le_of_eq HC.out.symm) _ _ _ _ _).drew, _, rfl, ⟨_, _, _, _, _, _, _, rfl⟩, Ar.rest t2, l, by have := Ar.rest_len t2; have := HLR.out; simp only [List.length_cons] at this; omega, (HR6.out.five HCR.out _ _ _ _ _).drew⟩
        | some n =>
          rw [hN] at hq6
          obtain rfl := hq6
          have HP : Hid (O = some (.mk 3 (Ar.word s) [] n [], Ar.rest t2, l)) := Lib.hid (by rw [HEM.out, hN])
          clear hN
          have r0 := HBX6.out.r0
          have r1 := HBX6.out.r1
          have r2 := HBX6.out.r2
          have r3 := HBX6.out.r3
          have r4 := HBX6.out.r4
          have q0 := HBX6.out.fz 0
          have q1 := HBX6.out.fz 1
          have q2 := HBX6.out.fz 2
          have q3 := HBX6.out.fz 3
          have q4 := HBX6.out.fz 4
          have hcl := HBX6.out.lt
          have hcl1 : c < W6.heap.size + 1 := Nat.lt_succ_of_lt hcl
          go_upto_region 16 with fail
          go_region
          go_wp2_with fail
          refine bodyPost_ret (v := .tuple #[.agg #[.int .i64 3, .string A, .string ⟨#[]⟩, .int .i64 n, .slice none 0 0], .bool true]) (by simp [results, Tryz.results69, go_sem, cell_set, r0, r1, r2, r3, r4, hcl, hcl1]) rfl ?_
          show AskQ rb w _ _ (five W6 c (.int .i64 3) (.string A) (.string ⟨#[]⟩) (.int .i64 n) (.slice none 0 0)).drew
          rw [HP.out]
          refine ⟨(five_but HB6.out (Nat.le_of_eq HC.out.symm) _ _ _ _ _).drew, _, rfl, ⟨_, _, _, _, _, _, _, rfl⟩, ?_, (HR6.out.five HCR.out _ _ _ _ _).drew⟩
          rw [← HA.out]
          exact leaf_vp 3 (Ar.word s) [] n (by have := HLA.out; omega) (by simp)
      have HN61 : Hid (∀ t, t1 ≠ 61 :: t) := Lib.hid (fun t e => h61 ⟨t, e⟩)
      have HP : Hid (O = none) := Lib.hid (HEL.out.trans (elseP_no1 HN61.out))
      clear h61
      refine Calls.mono (take_no3 rb l 61 61 (by decide) t1 W3 HR3.out HN61.out) ?_
      rintro e w' ⟨rfl, rfl⟩
      have r0 := HBX3.out.r0
      have r1 := HBX3.out.r1
      have r2 := HBX3.out.r2
      have r3 := HBX3.out.r3
      have r4 := HBX3.out.r4
      have q0 := HBX3.out.fz 0
      have q1 := HBX3.out.fz 1
      have q2 := HBX3.out.fz 2
      have q3 := HBX3.out.fz 3
      have q4 := HBX3.out.fz 4
      have hcl := HBX3.out.lt
      have hcl1 : c < W3.heap.size + 1 := Nat.lt_succ_of_lt hcl
      go_wp2_with fail
      refine bodyPost_ret (v := .tuple #[.agg #[.int .i64 0, .string ⟨#[]⟩, .string ⟨#[]⟩, .int .i64 0, .slice none 0 0], .bool false]) (by simp [results, Tryz.results69, go_sem, cell_set, r0, r1, r2, r3, r4, hcl, hcl1]) rfl ?_
      show AskQ rb w _ _ (five W3 c (.int .i64 0) (.string ⟨#[]⟩) (.string ⟨#[]⟩) (.int .i64 0) (.slice none 0 0))
      rw [HP.out]
      exact ⟨five_but (HB3.out) (Nat.le_of_eq HC.out.symm) _ _ _ _ _, zero5, rfl, five_zero, t1, l, by have := HLR.out; (try simp only [List.length_cons] at this); omega, (HR3.out).five HCR.out _ _ _ _ _⟩
    have HN62 : Hid (∀ t, R ≠ 62 :: t) := Lib.hid (fun t e => h62 ⟨t, e⟩)
    clear h62
    refine Calls.mono (take_no3 rb l 62 62 (by decide) R W2 HR2.out HN62.out) ?_
    rintro e w' ⟨rfl, rfl⟩
    go_wp2_with fail
    by_cases h61 : ∃ t, R = 61 :: t
    · obtain ⟨t, rfl⟩ := h61
      refine Calls.mono (take_yes3 rb l 61 61 (by decide) t W2 HR2.out (by have := HLR.out; simp only [List.length_cons] at this; omega)) ?_
      rintro e W3 ⟨rfl, hr3, hb3⟩
      have HR3 := Lib.hid hr3
      have HB3 := Lib.hid (HB2.out.trans hb3)
      have HBX3 := Lib.hid (HBX2.out.but hb3 HCR.out)
      clear hr3 hb3
      go_wp2_with fail
      refine Calls.mono (word_any rb l t W3 HR3.out (by have := HLR.out; (try simp only [List.length_cons] at this); omega)) ?_
      rintro e W4 ⟨rfl, hr4, hb4⟩
      have HR4 := Lib.hid hr4
      have HB4 := Lib.hid (HB3.out.trans hb4)
      have HBX4 := Lib.hid (HBX3.out.but hb4 HCR.out)
      clear hr4 hb4
      have HP : Hid (O = some (.mk 2 (Ar.word s) (Ar.word t) 0 [], Ar.rest t, l)) := Lib.hid (HEL.out.trans (elseP_is _ _ _))
      have HWT := Lib.hid (Ar.word_len t)
      obtain ⟨T, hT⟩ : ∃ T, bts (Ar.word t) = T := ⟨_, rfl⟩
      have HT := Lib.hid hT
      rw [hT]
      clear hT
      have r0 := HBX4.out.r0
      have r1 := HBX4.out.r1
      have r2 := HBX4.out.r2
      have r3 := HBX4.out.r3
      have r4 := HBX4.out.r4
      have q0 := HBX4.out.fz 0
      have q1 := HBX4.out.fz 1
      have q2 := HBX4.out.fz 2
      have q3 := HBX4.out.fz 3
      have q4 := HBX4.out.fz 4
      have hcl := HBX4.out.lt
      have hcl1 : c < W4.heap.size + 1 := Nat.lt_succ_of_lt hcl
      go_wp2_with fail
      refine bodyPost_ret (v := .tuple #[.agg #[.int .i64 2, .string A, .string T, .int .i64 0, .slice none 0 0], .bool true]) (by simp [results, Tryz.results69, go_sem, cell_set, r0, r1, r2, r3, r4, hcl, hcl1]) rfl ?_
      show AskQ rb w _ _ (five W4 c (.int .i64 2) (.string A) (.string T) (.int .i64 0) (.slice none 0 0))
      rw [HP.out]
      refine ⟨five_but HB4.out (Nat.le_of_eq HC.out.symm) _ _ _ _ _, _, rfl, ⟨_, _, _, _, _, _, _, rfl⟩, ?_, HR4.out.five HCR.out _ _ _ _ _⟩
      rw [← HA.out, ← HT.out]
      exact leaf_vp 2 (Ar.word s) (Ar.word t) 0 (by have := HLA.out; omega) (by have := HWT.out; have := HLR.out; simp only [List.length_cons] at this; omega)
    have HN61 : Hid (∀ t, R ≠ 61 :: t) := Lib.hid (fun t e => h61 ⟨t, e⟩)
    have HP : Hid (O = none) := Lib.hid (HEL.out.trans (elseP_no2 HN62.out HN61.out))
    clear h61
    refine Calls.mono (take_no3 rb l 61 61 (by decide) R W2 HR2.out HN61.out) ?_
    rintro e w' ⟨rfl, rfl⟩
    have r0 := HBX2.out.r0
    have r1 := HBX2.out.r1
    have r2 := HBX2.out.r2
    have r3 := HBX2.out.r3
    have r4 := HBX2.out.r4
    have q0 := HBX2.out.fz 0
    have q1 := HBX2.out.fz 1
    have q2 := HBX2.out.fz 2
    have q3 := HBX2.out.fz 3
    have q4 := HBX2.out.fz 4
    have hcl := HBX2.out.lt
    have hcl1 : c < W2.heap.size + 1 := Nat.lt_succ_of_lt hcl
    go_wp2_with fail
    refine bodyPost_ret (v := .tuple #[.agg #[.int .i64 0, .string ⟨#[]⟩, .string ⟨#[]⟩, .int .i64 0, .slice none 0 0], .bool false]) (by simp [results, Tryz.results69, go_sem, cell_set, r0, r1, r2, r3, r4, hcl, hcl1]) rfl ?_
    show AskQ rb w _ _ (five W2 c (.int .i64 0) (.string ⟨#[]⟩) (.string ⟨#[]⟩) (.int .i64 0) (.slice none 0 0))
    rw [HP.out]
    exact ⟨five_but (HB2.out) (Nat.le_of_eq HC.out.symm) _ _ _ _ _, zero5, rfl, five_zero, R, l, by have := HLR.out; (try simp only [List.length_cons] at this); omega, (HR2.out).five HCR.out _ _ _ _ _⟩
end Go.Proofs.YtkemlckmfgacdaaGreatDoor
/- Contract: the text of a good ask, the program's. -/
namespace Go.Proofs.YtkemlckmfgacdaaGreatDoor
open Go.ChangeShapes Go.WideShapes Go.ChangeAt Go.RowKit
set_option linter.unusedVariables false
open Tp
theorem add1 (a : Bs) : (⟨#[63]⟩ : ByteArray) ++ bts a = bts (63 :: a) := bts_append [63] a
theorem add2 (a b : Bs) : bts a ++ (⟨#[61]⟩ : ByteArray) ++ bts b = bts (a ++ 61 :: b) := by
  rw [show (⟨#[61]⟩ : ByteArray) = bts [61] from rfl, bts_append, bts_append, List.append_assoc]; rfl
theorem add3 (a b : Bs) : bts a ++ (⟨#[62, 61]⟩ : ByteArray) ++ bts b = bts (a ++ 62 :: 61 :: b) := by
  rw [show (⟨#[62, 61]⟩ : ByteArray) = bts [62, 61] from rfl, bts_append, bts_append, List.append_assoc]; rfl
theorem lab_short {L : Bs} (h : lab L = true) : L.length ≤ 20 := by
  by_cases h2 : 20 < L.length
  · rw [lab_len (.inr h2)] at h; cases h
  · omega
theorem unit_short {L : Bs} (h : Ask.unit L = true) : L.length ≤ 20 := by
  unfold Ask.unit at h
  simp only [Bool.or_eq_true, decide_eq_true_eq] at h
  rcases h with (h | h) | h <;> subst h <;> decide
set_option maxRecDepth 20000 in
set_option maxHeartbeats 4000000 in
theorem textA (x : Ask) (v : Value) (w : World) (he : x.err = 0) (h3 : x.kind ≤ 3) (hp : Env w) (hx : AskV w x v) : Calls Tryz.prog 58 #[v] w fun e w' => e = .returned (.string (bts (Ar.txt x))) ∧ Below w.heap.size w w' := by
  cases x with
  | mk k ka va nu l =>
  rw [AskV] at hx
  obtain ⟨ad, n, cap, rfl, hrest⟩ := hx
  clear hrest
  obtain ⟨hb0, hes⟩ := Ask.err_zero he
  obtain ⟨hk1, hk6, hlen, hn0, hnu, hnu2, _, _, hu, hl1, hl2⟩ := Ask.bad_zero hb0
  have h3 : k ≤ 3 := h3
  clear hb0 hes hlen he
  have hka : ka.length ≤ 20 := by
    by_cases h : k = 3
    · exact unit_short (hu h)
    · exact lab_short (hl1 (by omega))
  obtain ⟨V, hV⟩ : ∃ V, (Ar.txt (Ask.mk k ka va nu l)) = V := ⟨_, rfl⟩
  have HV := Lib.hid hV
  rw [hV]
  clear hV
  obtain ⟨a1, ha1⟩ : ∃ a, bts ka = a := ⟨_, rfl⟩
  obtain ⟨a2, ha2⟩ : ∃ a, bts va = a := ⟨_, rfl⟩
  have HA1 := Lib.hid ha1
  have HA2 := Lib.hid ha2
  have hs1 : a1.size ≤ 20 := by rw [← ha1, bts_size]; exact hka
  rw [ha1, ha2]
  have hb9 : Below w.heap.size w (w.alloc (.cells #[.int .i64 k, .string a1, .string a2, .int .i64 nu, .slice ad n cap] 26)) := (Below.refl _ _).alloc (Nat.le_refl _) _
  have HB9 := Lib.hid hb9
  by_cases h1 : k = 1
  · subst h1
    have HR : Hid ((⟨#[63]⟩ : ByteArray) ++ a1 = bts V) := Lib.hid (by rw [← HV.out, ← HA1.out, add1]; rfl)
    have h63 : (⟨#[63]⟩ : ByteArray).size = 1 := rfl
    clear ha1 ha2 hu hl1 hl2 hb9 hk1 hk6 h3 hn0 hnu hnu2
    go_enter Tryz.func58, Tryz.ntmps58
    go_wp2_with fail
    go_ret
    exact ⟨by rw [← HR.out]; rfl, HB9.out⟩
  by_cases h2 : k = 2
  · have hs2 : a2.size ≤ 20 := by rw [← ha2, bts_size]; exact lab_short (hl2 h2)
    subst h2
    have HR : Hid (a1 ++ (⟨#[61]⟩ : ByteArray) ++ a2 = bts V) := Lib.hid (by rw [← HV.out, ← HA1.out, ← HA2.out, add2]; rfl)
    obtain ⟨p1, hp1⟩ : ∃ p, a1 ++ (⟨#[61]⟩ : ByteArray) = p := ⟨_, rfl⟩
    have h61 : (⟨#[61]⟩ : ByteArray).size = 1 := rfl
    have hsp : p1.size ≤ 21 := by rw [← hp1, ByteArray.size_append]; omega
    rw [hp1] at HR
    clear ha1 ha2 hu hl1 hl2 hb9 hk1 hk6 h3 hn0 hnu hnu2
    go_enter Tryz.func58, Tryz.ntmps58
    go_wp2_with fail
    go_ret
    exact ⟨by rw [← HR.out]; rfl, HB9.out⟩
  · obtain rfl : k = 3 := by omega
    obtain ⟨u, rfl⟩ : ∃ u : Nat, nu = (u : Int) := ⟨nu.toNat, by omega⟩
    have hu9 : u ≤ 1099511627776 := by omega
    obtain ⟨D, hD⟩ : ∃ D, bts (Nt.dec u) = D := ⟨_, rfl⟩
    have hsd : D.size ≤ 19 := by rw [← hD, bts_size]; exact Nt.dec_len 18 u (by omega)
    have HR : Hid (a1 ++ (⟨#[62, 61]⟩ : ByteArray) ++ D = bts V) := Lib.hid (by rw [← HV.out, ← HA1.out, ← hD, add3]; rfl)
    obtain ⟨p1, hp1⟩ : ∃ p, a1 ++ (⟨#[62, 61]⟩ : ByteArray) = p := ⟨_, rfl⟩
    have h62 : (⟨#[62, 61]⟩ : ByteArray).size = 2 := rfl
    have hsp : p1.size ≤ 22 := by rw [← hp1, ByteArray.size_append]; omega
    rw [hp1] at HR
    have hnn1 : ¬ 9223372036854775807 < a1.size + 2 := by omega
    have hnn2 : ¬ 9223372036854775807 < p1.size + D.size := by omega
    obtain ⟨W0, hW0⟩ : ∃ W, W = w.alloc (.cells #[.int .i64 3, .string a1, .string a2, .int .i64 (u : Int), .slice ad n cap] 26) := ⟨_, rfl⟩
    rw [← hW0] at HB9
    obtain ⟨cx, hcx⟩ : ∃ c, c = w.heap.size := ⟨_, rfl⟩
    have d1 : W0.cell? ⟨cx, 1, none⟩ = some (.string a1) := by rw [hcx, hW0]; simp
    have d3 : W0.cell? ⟨cx, 3, none⟩ = some (.int .i64 (u : Int)) := by rw [hcx, hW0]; simp
    have d0 : W0.cell? ⟨cx, 0, none⟩ = some (.int .i64 3) := by rw [hcx, hW0]; simp
    have hc0 : cx < W0.heap.size := by rw [hcx, hW0]; simp
    have HC : Hid (∀ W, Below W0.heap.size W0 W → Calls Tryz.prog 78 #[.int .i64 (u : Int), .int .i64 10] W fun e w' => e = .returned (.string D) ∧ Below W.heap.size W w') := Lib.hid (fun W hW => by rw [← hD]; exact FormatIntN_any u W (by omega) ((hp.below HB9.out (Nat.le_refl _)).below hW (Nat.le_refl _)))
    clear ha1 ha2 hu hl1 hl2 hb9 hk1 hk6 h3 hn0 hnu hnu2 hD h1 h2
    have d1d : W0.drew.cell? ⟨cx, 1, none⟩ = some (.string a1) := d1
    have d3d : W0.drew.cell? ⟨cx, 3, none⟩ = some (.int .i64 (u : Int)) := d3
    go_enter Tryz.func58, Tryz.ntmps58
    go_upto_region 7 with fail
    rw [← hW0, ← hcx]
    clear hW0 hcx
    first | (go_region_held3 (fun W => W.cell? ⟨cx, 1, none⟩ = some (.string a1) ∧ W.cell? ⟨cx, 3, none⟩ = some (.int .i64 (u : Int))) (first | with_reducible exact ⟨d1, d3⟩ | with_reducible exact ⟨d1d, d3d⟩ | with_reducible exact ⟨d1a, d3a⟩ | go_keep) (first | (go_at_call 78; refine Calls.mono (HC.out _ (by first | exact Below.refl _ _ | go_grown)) ?_; rintro e w1 ⟨rfl, hb1⟩; have d1a := (hb1.cell (p := ⟨cx, 1, none⟩) hc0).trans d1; have d3a := (hb1.cell (p := ⟨cx, 3, none⟩) hc0).trans d3))) | fail
    all_goals
      go_wp2_with fail
      go_ret
      exact ⟨by rw [← HR.out]; rfl, HB9.out.trans (((show Below W0.heap.size W0 W0.drew from by go_grown).trans hb1).mono HB9.out.size)⟩
end Go.Proofs.YtkemlckmfgacdaaGreatDoor
/- Contract: the text of a good ask, as deep as it goes; the program's. -/
namespace Go.Proofs.YtkemlckmfgacdaaGreatDoor
open Go.ChangeShapes Go.WideShapes Go.ChangeAt Go.RowKit
set_option linter.unusedVariables false
open Tp
namespace Ar
theorem txt_len : ∀ (N : Nat) (x : Ask), x.size ≤ N → x.err = 0 → (txt x).length ≤ 45 * x.size
  | 0, x, h, _ => by have := Ask.one_le x; omega
  | N + 1, .mk k a b n l, h, he => by
    obtain ⟨hb0, hes⟩ := Ask.err_zero he
    obtain ⟨hk1, hk6, hlen, hn0, hnu, hnu2, _, _, hu, hl1, hl2⟩ := Ask.bad_zero hb0
    rw [Ask.size] at h ⊢
    rw [txt]
    by_cases h1 : k = 1
    · have := lab_short (hl1 (.inl h1))
      rw [if_pos h1]; simp; omega
    rw [if_neg h1]
    by_cases h2 : k = 2
    · have := lab_short (hl1 (.inr h2))
      have := lab_short (hl2 h2)
      rw [if_pos h2]; simp; omega
    rw [if_neg h2]
    by_cases h3 : k = 3
    · have := unit_short (hu h3)
      have := Nt.dec_len 18 n.toNat (by omega)
      rw [if_pos h3]; simp; omega
    rw [if_neg h3]
    by_cases h4 : k = 4
    · subst h4
      have h1l : l.length = 1 := hlen
      match l, h1l with
      | [y], _ =>
        have hy := txt_len N y (by rw [Ask.sizes, Ask.sizes] at h; omega) (Ask.errs_at hes (i := 0) rfl)
        rw [if_pos rfl, Ask.sizes, Ask.sizes]
        simp [txts]; omega
    rw [if_neg h4]
    have h2l : l.length = 2 := by rw [hlen]; unfold Ask.inner; rw [if_pos (by omega)]
    match l, h2l with
    | [y, z], _ =>
      have hy := txt_len N y (by rw [Ask.sizes, Ask.sizes, Ask.sizes] at h; omega) (Ask.errs_at hes (i := 0) rfl)
      have hz := txt_len N z (by rw [Ask.sizes, Ask.sizes, Ask.sizes] at h; omega) (Ask.errs_at hes (i := 1) rfl)
      have e0 : ¬ k = 0 := by omega
      have e41 : ¬ k = 41 := by omega
      rw [Ask.sizes, Ask.sizes, Ask.sizes]
      simp [txts, e0, e41]
      omega
theorem txt_two {k : Int} {a b : Bs} {n : Int} {y z : Ask} (h : k = 5 ∨ k = 6) : txt (.mk k a b n [y, z]) = 40 :: (txt y ++ (if k = 5 then 38 else 124) :: (txt z ++ [41])) := by
  rcases h with rfl | rfl <;> simp [txt, txts]
end Ar
set_option maxRecDepth 20000 in
set_option maxHeartbeats 64000000 in
theorem text_all : ∀ (N : Nat) (x : Ask) (v : Value) (w : World), x.size ≤ N → x.size ≤ 60 → x.err = 0 → Env w → AskV w x v → Calls Tryz.prog 58 #[v] w fun e w' => e = .returned (.string (bts (Ar.txt x))) ∧ Below w.heap.size w w' := by
  intro N
  induction N with
  | zero => intro x v w h; have := Ask.one_le x; omega
  | succ N ih =>
    intro x v w hN h60 herr hev hx
    by_cases hk3 : x.kind ≤ 3
    · exact textA x v w herr hk3 hev hx
    have HIH := Lib.hid ih
    have hx2 := hx
    cases x with
    | mk k ka va nu l =>
    have h3 : ¬ k ≤ 3 := hk3
    rw [AskV] at hx
    obtain ⟨ad, n, cap, rfl, hn, hcap, hmax, u1, u2, hrow⟩ := hx
    obtain ⟨hb0, hes⟩ := Ask.err_zero herr
    obtain ⟨hk1, hk6, hlen, hrest⟩ := Ask.bad_zero hb0
    rw [Ask.size] at hN h60
    rw [← hn] at hlen
    have HLEN := Lib.hid hlen
    have HN := Lib.hid hn
    have HR := Lib.hid hrow
    have HES := Lib.hid hes
    obtain ⟨V, hV⟩ : ∃ V, bts (Ar.txt (Ask.mk k ka va nu l)) = V := ⟨_, rfl⟩
    have HV := Lib.hid hV
    rw [hV]
    obtain ⟨a1, ha1⟩ : ∃ a, bts ka = a := ⟨_, rfl⟩
    obtain ⟨a2, ha2⟩ : ∃ a, bts va = a := ⟨_, rfl⟩
    rw [ha1, ha2]
    clear ih herr hx2 hn hb0 hes hV ha1 ha2 u1 u2 hlen hrest hcap hmax hk3
    obtain ⟨W0, hW0⟩ : ∃ W, W = w.alloc (.cells #[.int .i64 k, .string a1, .string a2, .int .i64 nu, .slice ad n cap] 26) := ⟨_, rfl⟩
    have hb9 : Below w.heap.size w W0 := by rw [hW0]; exact (Below.refl _ _).alloc (Nat.le_refl _) _
    have HB9 := Lib.hid hb9
    obtain ⟨cx, hcx⟩ : ∃ c, c = w.heap.size := ⟨_, rfl⟩
    have d0 : W0.cell? ⟨cx, 0, none⟩ = some (.int .i64 k) := by rw [hW0]; exact (cell_top _ _ _ _ _ hcx).trans rfl
    have d4 : W0.cell? ⟨cx, 4, none⟩ = some (.slice ad n cap) := by rw [hW0]; exact (cell_top _ _ _ _ _ hcx).trans rfl
    have hcx0 : cx < W0.heap.size := by rw [hW0, hcx]; simp
    have HE0 := Lib.hid (hev.below hb9 (Nat.le_refl _))
    have hn0 : 0 < n := by rw [HLEN.out]; unfold Ask.inner; split <;> (try split) <;> omega
    obtain ⟨y, hy⟩ : ∃ y, l[0]? = some y := ⟨_, List.getElem?_eq_getElem (by rw [← HN.out]; exact hn0)⟩
    obtain ⟨bl, off, rfl, hb, hat⟩ := hrow hn0
    have hy1 := Ask.sizes_at hy
    have HY0 := Lib.hid (Ask.errs_at HES.out hy)
    have HYL := Lib.hid (Ar.txt_len y.size y (Nat.le_refl _) HY0.out)
    have hat0 := AsksV.below hb9 l bl off hb hat
    obtain ⟨k0, k1, k2, k3, ad0, len0, cap0, c0, c1, c2, c3, c4, hyv⟩ := hat0.get' hy
    simp only [Nat.zero_mul, Nat.add_zero] at c0 c1 c2 c3 c4
    have hbr : bl < W0.heap.size := Nat.lt_of_lt_of_le hb hb9.size
    have hnz : (0 : Int) < (n : Int) := by omega
    obtain ⟨Y, hY⟩ : ∃ Y, bts (Ar.txt y) = Y := ⟨_, rfl⟩
    have HC0 : Hid (∀ W, Below W0.heap.size W0 W → Calls Tryz.prog 58 #[.agg #[.int .i64 k0, .string k1, .string k2, .int .i64 k3, .slice ad0 len0 cap0]] W fun e w' => e = .returned (.string Y) ∧ Below W.heap.size W w') := Lib.hid (fun W hW => by
      rw [← hY]
      exact HIH.out y _ W (by omega) (by omega) HY0.out (HE0.out.below hW (Nat.le_refl _)) (AskV.below hW _ _ hyv))
    have hYs : Y.size ≤ 2700 := by rw [← hY, bts_size]; have := HYL.out; omega
    have hk456 : k = 4 ∨ k = 5 ∨ k = 6 := by omega
    rcases hk456 with rfl | h56
    · have HVV : Hid ((⟨#[33]⟩ : ByteArray) ++ Y = V) := Lib.hid (by
        rw [← HV.out, ← hY, show (⟨#[33]⟩ : ByteArray) = bts [33] from rfl, bts_append]
        have h1l : l.length = 1 := HN.out ▸ HLEN.out
        match l, h1l, hy with
        | [_], _, hy => simp at hy; subst hy; rw [Ar.txt4]; rfl)
      have hnn : ¬ 9223372036854775807 < 1 + Y.size := by omega
      clear hat hat0 hy hyv hb9 hrow h3 hy1 hN h60 hY hYs hk1 hk6
      go_enter Tryz.func58, Tryz.ntmps58
      go_upto_region 9 with fail
      rw [← hW0, ← hcx]
      clear hW0 hcx
      go_wp2_with fail
      refine Calls.mono (HC0.out _ (Below.refl _ _)) ?_
      rintro e w1 ⟨rfl, hb1⟩
      have HB1 := Lib.hid hb1
      clear hb1
      go_wp2_with fail
      go_ret
      exact ⟨by rw [← HVV.out]; rfl, HB9.out.trans (HB1.out.mono HB9.out.size)⟩
    have hlen2 : n = 2 := by rw [HLEN.out]; unfold Ask.inner; rw [if_pos h56]
    subst hlen2
    obtain ⟨z, hz⟩ : ∃ z, l[1]? = some z := ⟨_, List.getElem?_eq_getElem (by rw [← HN.out]; omega)⟩
    have hz1 := Ask.sizes_at hz
    have HZ0 := Lib.hid (Ask.errs_at HES.out hz)
    have HZL := Lib.hid (Ar.txt_len z.size z (Nat.le_refl _) HZ0.out)
    obtain ⟨m0, m1, m2, m3, ad1, len1, cap1, z0, z1, z2, z3, z4, hzv⟩ := hat0.get' hz
    simp only [Nat.one_mul] at z0 z1 z2 z3 z4
    obtain ⟨Z, hZ⟩ : ∃ Z, bts (Ar.txt z) = Z := ⟨_, rfl⟩
    have HC1 : Hid (∀ W, Below W0.heap.size W0 W → Calls Tryz.prog 58 #[.agg #[.int .i64 m0, .string m1, .string m2, .int .i64 m3, .slice ad1 len1 cap1]] W fun e w' => e = .returned (.string Z) ∧ Below W.heap.size W w') := Lib.hid (fun W hW => by
      rw [← hZ]
      exact HIH.out z _ W (by omega) (by omega) HZ0.out (HE0.out.below hW (Nat.le_refl _)) (AskV.below hW _ _ hzv))
    have hZs : Z.size ≤ 2700 := by rw [← hZ, bts_size]; have := HZL.out; omega
    have HNL : Hid (l = [y, z]) := Lib.hid (by
      match l, hy, hz, HN.out with
      | [_, _], hy, hz, _ => simp at hy hz; subst hy hz; rfl)
    have HSIZE := Lib.hid (show ∀ (a b : ByteArray), (a ++ b).size = a.size + b.size from fun a b => ByteArray.size_append)
    have HDX : Hid (∀ W, Below W0.heap.size W0 W → W.cell? ⟨cx, 4, none⟩ = some (.slice (some ⟨bl, off, none⟩) 2 cap) ∧ W.cell? ⟨bl, off, none⟩ = some (.int .i64 k0) ∧ W.cell? ⟨bl, off + 1, none⟩ = some (.string k1) ∧ W.cell? ⟨bl, off + 2, none⟩ = some (.string k2) ∧ W.cell? ⟨bl, off + 3, none⟩ = some (.int .i64 k3) ∧ W.cell? ⟨bl, off + 4, none⟩ = some (.slice ad0 len0 cap0) ∧ W.cell? ⟨bl, off + 5, none⟩ = some (.int .i64 m0) ∧ W.cell? ⟨bl, off + 5 + 1, none⟩ = some (.string m1) ∧ W.cell? ⟨bl, off + 5 + 2, none⟩ = some (.string m2) ∧ W.cell? ⟨bl, off + 5 + 3, none⟩ = some (.int .i64 m3) ∧ W.cell? ⟨bl, off + 5 + 4, none⟩ = some (.slice ad1 len1 cap1)) := Lib.hid (fun W hW =>
      ⟨(hW.cell (p := ⟨cx, 4, none⟩) hcx0).trans d4, (hW.cell (p := ⟨bl, off, none⟩) hbr).trans c0, (hW.cell (p := ⟨bl, off + 1, none⟩) hbr).trans c1, (hW.cell (p := ⟨bl, off + 2, none⟩) hbr).trans c2, (hW.cell (p := ⟨bl, off + 3, none⟩) hbr).trans c3, (hW.cell (p := ⟨bl, off + 4, none⟩) hbr).trans c4, (hW.cell (p := ⟨bl, off + 5, none⟩) hbr).trans z0, (hW.cell (p := ⟨bl, off + 5 + 1, none⟩) hbr).trans z1, (hW.cell (p := ⟨bl, off + 5 + 2, none⟩) hbr).trans z2, (hW.cell (p := ⟨bl, off + 5 + 3, none⟩) hbr).trans z3, (hW.cell (p := ⟨bl, off + 5 + 4, none⟩) hbr).trans z4⟩)
    rcases h56 with rfl | rfl
    · obtain ⟨p1, hp1⟩ : ∃ p, (⟨#[40]⟩ : ByteArray) ++ Y = p := ⟨_, rfl⟩
      obtain ⟨p2, hp2⟩ : ∃ p, p1 ++ (⟨#[38]⟩ : ByteArray) = p := ⟨_, rfl⟩
      obtain ⟨p3, hp3⟩ : ∃ p, p2 ++ Z = p := ⟨_, rfl⟩
      have e40 : (⟨#[40]⟩ : ByteArray).size = 1 := rfl
      have eS : (⟨#[38]⟩ : ByteArray).size = 1 := rfl
      have hs1 : p1.size ≤ 2701 := by rw [← hp1, ByteArray.size_append]; omega
      have hs2 : p2.size ≤ 2702 := by rw [← hp2, ByteArray.size_append]; omega
      have hs3 : p3.size ≤ 5402 := by rw [← hp3, ByteArray.size_append]; omega
      have HVV : Hid (p3 ++ (⟨#[41]⟩ : ByteArray) = V) := Lib.hid (by
        rw [← HV.out, ← hp3, ← hp2, ← hp1, ← hY, ← hZ, HNL.out, Ar.txt_two (by decide), show (⟨#[40]⟩ : ByteArray) = bts [40] from rfl, show (⟨#[38]⟩ : ByteArray) = bts [38] from rfl, show (⟨#[41]⟩ : ByteArray) = bts [41] from rfl, bts_append, bts_append, bts_append, bts_append]
        simp)
      have hn1 : ¬ 9223372036854775807 < 1 + Y.size := by omega
      have hn2 : ¬ 9223372036854775807 < p1.size + 1 := by omega
      have hn3 : ¬ 9223372036854775807 < p2.size + Z.size := by omega
      have hn4 : ¬ 9223372036854775807 < p3.size + 1 := by omega
      clear hat hat0 hy hyv hb9 hrow h3 hy1 hN h60 hY hYs hk1 hk6 hz hz1 hzv hZ hZs hs1 hs2 hs3 e40 eS c0 c1 c2 c3 c4 z0 z1 z2 z3 z4
      go_enter Tryz.func58, Tryz.ntmps58
      go_upto_region 11 with fail
      rw [← hW0, ← hcx]
      clear hW0 hcx d0 d4
      go_region_held3 (fun W => W.cell? ⟨cx, 4, none⟩ = some (.slice (some ⟨bl, off, none⟩) 2 cap) ∧ W.cell? ⟨bl, off, none⟩ = some (.int .i64 k0) ∧ W.cell? ⟨bl, off + 1, none⟩ = some (.string k1) ∧ W.cell? ⟨bl, off + 2, none⟩ = some (.string k2) ∧ W.cell? ⟨bl, off + 3, none⟩ = some (.int .i64 k3) ∧ W.cell? ⟨bl, off + 4, none⟩ = some (.slice ad0 len0 cap0) ∧ W.cell? ⟨bl, off + 5, none⟩ = some (.int .i64 m0) ∧ W.cell? ⟨bl, off + 5 + 1, none⟩ = some (.string m1) ∧ W.cell? ⟨bl, off + 5 + 2, none⟩ = some (.string m2) ∧ W.cell? ⟨bl, off + 5 + 3, none⟩ = some (.int .i64 m3) ∧ W.cell? ⟨bl, off + 5 + 4, none⟩ = some (.slice ad1 len1 cap1))
        (exact HDX.out _ (by first | exact Below.refl _ _ | exact HU2.out | exact HU1.out | exact (Below.refl _ _).drew | exact HU2.out.drew | exact HU1.out.drew))
        (first
          | (go_at_call 58; with_reducible refine Calls.mono (HC0.out _ (by first | exact Below.refl _ _ | exact HU2.out | exact HU1.out | exact (Below.refl _ _).drew | exact HU2.out.drew | exact HU1.out.drew)) ?_; rintro e w1 ⟨rfl, hb1⟩; have HU1 := Lib.hid (show Below W0.heap.size W0 w1 from Below.trans (by first | exact Below.refl _ _ | exact HU2.out | exact HU1.out | exact (Below.refl _ _).drew | exact HU2.out.drew | exact HU1.out.drew) (hb1.mono (show Below W0.heap.size W0 _ from (by first | exact Below.refl _ _ | exact HU2.out | exact HU1.out | exact (Below.refl _ _).drew | exact HU2.out.drew | exact HU1.out.drew)).size)); clear hb1)
          | (go_at_call 58; with_reducible refine Calls.mono (HC1.out _ (by first | exact Below.refl _ _ | exact HU2.out | exact HU1.out | exact (Below.refl _ _).drew | exact HU2.out.drew | exact HU1.out.drew)) ?_; rintro e w2 ⟨rfl, hb2⟩; have HU2 := Lib.hid (show Below W0.heap.size W0 w2 from Below.trans (by first | exact Below.refl _ _ | exact HU2.out | exact HU1.out | exact (Below.refl _ _).drew | exact HU2.out.drew | exact HU1.out.drew) (hb2.mono (show Below W0.heap.size W0 _ from (by first | exact Below.refl _ _ | exact HU2.out | exact HU1.out | exact (Below.refl _ _).drew | exact HU2.out.drew | exact HU1.out.drew)).size)); clear hb2))
      all_goals
        go_wp2_with fail
        go_ret
        exact ⟨by rw [← HVV.out]; rfl, HB9.out.trans (HU2.out.mono HB9.out.size)⟩
    · obtain ⟨p1, hp1⟩ : ∃ p, (⟨#[40]⟩ : ByteArray) ++ Y = p := ⟨_, rfl⟩
      obtain ⟨p2, hp2⟩ : ∃ p, p1 ++ (⟨#[124]⟩ : ByteArray) = p := ⟨_, rfl⟩
      obtain ⟨p3, hp3⟩ : ∃ p, p2 ++ Z = p := ⟨_, rfl⟩
      have e40 : (⟨#[40]⟩ : ByteArray).size = 1 := rfl
      have eS : (⟨#[124]⟩ : ByteArray).size = 1 := rfl
      have hs1 : p1.size ≤ 2701 := by rw [← hp1, ByteArray.size_append]; omega
      have hs2 : p2.size ≤ 2702 := by rw [← hp2, ByteArray.size_append]; omega
      have hs3 : p3.size ≤ 5402 := by rw [← hp3, ByteArray.size_append]; omega
      have HVV : Hid (p3 ++ (⟨#[41]⟩ : ByteArray) = V) := Lib.hid (by
        rw [← HV.out, ← hp3, ← hp2, ← hp1, ← hY, ← hZ, HNL.out, Ar.txt_two (by decide), show (⟨#[40]⟩ : ByteArray) = bts [40] from rfl, show (⟨#[124]⟩ : ByteArray) = bts [124] from rfl, show (⟨#[41]⟩ : ByteArray) = bts [41] from rfl, bts_append, bts_append, bts_append, bts_append]
        simp)
      have hn1 : ¬ 9223372036854775807 < 1 + Y.size := by omega
      have hn2 : ¬ 9223372036854775807 < p1.size + 1 := by omega
      have hn3 : ¬ 9223372036854775807 < p2.size + Z.size := by omega
      have hn4 : ¬ 9223372036854775807 < p3.size + 1 := by omega
      clear hat hat0 hy hyv hb9 hrow h3 hy1 hN h60 hY hYs hk1 hk6 hz hz1 hzv hZ hZs hs1 hs2 hs3 e40 eS c0 c1 c2 c3 c4 z0 z1 z2 z3 z4
      go_enter Tryz.func58, Tryz.ntmps58
      go_upto_region 12 with fail
      rw [← hW0, ← hcx]
      clear hW0 hcx d0 d4
      go_region_held3 (fun W => W.cell? ⟨cx, 4, none⟩ = some (.slice (some ⟨bl, off, none⟩) 2 cap) ∧ W.cell? ⟨bl, off, none⟩ = some (.int .i64 k0) ∧ W.cell? ⟨bl, off + 1, none⟩ = some (.string k1) ∧ W.cell? ⟨bl, off + 2, none⟩ = some (.string k2) ∧ W.cell? ⟨bl, off + 3, none⟩ = some (.int .i64 k3) ∧ W.cell? ⟨bl, off + 4, none⟩ = some (.slice ad0 len0 cap0) ∧ W.cell? ⟨bl, off + 5, none⟩ = some (.int .i64 m0) ∧ W.cell? ⟨bl, off + 5 + 1, none⟩ = some (.string m1) ∧ W.cell? ⟨bl, off + 5 + 2, none⟩ = some (.string m2) ∧ W.cell? ⟨bl, off + 5 + 3, none⟩ = some (.int .i64 m3) ∧ W.cell? ⟨bl, off + 5 + 4, none⟩ = some (.slice ad1 len1 cap1))
        (exact HDX.out _ (by first | exact Below.refl _ _ | exact HU2.out | exact HU1.out | exact (Below.refl _ _).drew | exact HU2.out.drew | exact HU1.out.drew))
        (first
          | (go_at_call 58; with_reducible refine Calls.mono (HC0.out _ (by first | exact Below.refl _ _ | exact HU2.out | exact HU1.out | exact (Below.refl _ _).drew | exact HU2.out.drew | exact HU1.out.drew)) ?_; rintro e w1 ⟨rfl, hb1⟩; have HU1 := Lib.hid (show Below W0.heap.size W0 w1 from Below.trans (by first | exact Below.refl _ _ | exact HU2.out | exact HU1.out | exact (Below.refl _ _).drew | exact HU2.out.drew | exact HU1.out.drew) (hb1.mono (show Below W0.heap.size W0 _ from (by first | exact Below.refl _ _ | exact HU2.out | exact HU1.out | exact (Below.refl _ _).drew | exact HU2.out.drew | exact HU1.out.drew)).size)); clear hb1)
          | (go_at_call 58; with_reducible refine Calls.mono (HC1.out _ (by first | exact Below.refl _ _ | exact HU2.out | exact HU1.out | exact (Below.refl _ _).drew | exact HU2.out.drew | exact HU1.out.drew)) ?_; rintro e w2 ⟨rfl, hb2⟩; have HU2 := Lib.hid (show Below W0.heap.size W0 w2 from Below.trans (by first | exact Below.refl _ _ | exact HU2.out | exact HU1.out | exact (Below.refl _ _).drew | exact HU2.out.drew | exact HU1.out.drew) (hb2.mono (show Below W0.heap.size W0 _ from (by first | exact Below.refl _ _ | exact HU2.out | exact HU1.out | exact (Below.refl _ _).drew | exact HU2.out.drew | exact HU1.out.drew)).size)); clear hb2))
      all_goals
        go_wp2_with fail
        go_ret
        exact ⟨by rw [← HVV.out]; rfl, HB9.out.trans (HU2.out.mono HB9.out.size)⟩
end Go.Proofs.YtkemlckmfgacdaaGreatDoor
/- Contracts: the program's Text and Read of an ask. -/
namespace Go.Proofs.YtkemlckmfgacdaaGreatDoor
open Go.ChangeShapes Go.WideShapes Go.ChangeAt Go.RowKit
set_option linter.unusedVariables false
set_option linter.unusedSimpArgs false
open Tp
/-- the text that ask.Text tells -/
def askTxtOf (x : Ask) : ByteArray := if x.fault = 0 then bts (Ar.txt x) else ⟨#[]⟩
set_option maxRecDepth 20000 in
set_option maxHeartbeats 4000000 in
theorem askText_any (x : Ask) (v : Value) (w : World) (hs : x.size ≤ 1000000000) (he : Env w) (hx : AskV w x v) : Calls Tryz.prog 27 #[v] w fun e w' => e = .returned (.tuple #[.string (askTxtOf x), .int .i64 x.fault]) ∧ Below w.heap.size w w' := by
  obtain ⟨x0, x1, x2, x3, xd, xl, xc, rfl⟩ := hx.form
  obtain ⟨B, hB⟩ : ∃ B, B = w.heap.size := ⟨_, rfl⟩
  obtain ⟨W0, hW0⟩ : ∃ W, W = w.alloc (.cells #[.int .i64 x0, .string x1, .string x2, .int .i64 x3, .slice xd xl xc] 26) := ⟨_, rfl⟩
  have hb : Below w.heap.size w W0 := by rw [hW0]; exact (Below.refl _ _).alloc (Nat.le_refl _) _
  have HX0 := Lib.hid (AskV.below hb _ _ hx)
  have HE0 := Lib.hid (he.below hb (Nat.le_refl _))
  have HBL := Lib.hid hb
  have m0 : W0.cell? ⟨B, 0, none⟩ = some (.int .i64 x0) := by rw [hW0]; exact (cell_top _ _ _ _ _ hB).trans rfl
  have m1 : W0.cell? ⟨B, 1, none⟩ = some (.string x1) := by rw [hW0]; exact (cell_top _ _ _ _ _ hB).trans rfl
  have m2 : W0.cell? ⟨B, 2, none⟩ = some (.string x2) := by rw [hW0]; exact (cell_top _ _ _ _ _ hB).trans rfl
  have m3 : W0.cell? ⟨B, 3, none⟩ = some (.int .i64 x3) := by rw [hW0]; exact (cell_top _ _ _ _ _ hB).trans rfl
  have m4 : W0.cell? ⟨B, 4, none⟩ = some (.slice xd xl xc) := by rw [hW0]; exact (cell_top _ _ _ _ _ hB).trans rfl
  have hBl : B < W0.heap.size := by rw [hW0, hB]; simp
  have HC := Lib.hid (askCheck_any x _ W0 hs HX0.out)
  obtain ⟨f, hf⟩ : ∃ f, x.fault = f := ⟨_, rfl⟩
  have HF := Lib.hid hf
  rw [hf] at HC ⊢
  obtain ⟨T, hT⟩ : ∃ T, askTxtOf x = T := ⟨_, rfl⟩
  have HT := Lib.hid hT
  rw [hT]
  clear hb hx he hs hf hT
  go_enter Tryz.func27, Tryz.ntmps27
  go_upto_region 1 with fail
  rw [← hW0, ← hB]
  clear hW0 hB
  go_wp2_with fail
  refine Calls.mono HC.out ?_
  rintro e w1 ⟨rfl, hb1⟩
  have HB1 := Lib.hid hb1
  replace m0 := (hb1.cell (p := ⟨B, 0, none⟩) hBl).trans m0
  replace m1 := (hb1.cell (p := ⟨B, 1, none⟩) hBl).trans m1
  replace m2 := (hb1.cell (p := ⟨B, 2, none⟩) hBl).trans m2
  replace m3 := (hb1.cell (p := ⟨B, 3, none⟩) hBl).trans m3
  replace m4 := (hb1.cell (p := ⟨B, 4, none⟩) hBl).trans m4
  clear hb1
  by_cases h0 : f = 0
  · subst h0
    have hg := HF.out
    have HG : Hid (x.err = 0 ∧ x.size ≤ 60) := Lib.hid (by
      unfold Ask.fault at hg
      split at hg
      · cases hg
      · exact ⟨hg, by omega⟩)
    have HTX : Hid (bts (Ar.txt x) = T) := Lib.hid (by rw [← HT.out]; unfold askTxtOf; rw [if_pos HF.out])
    have HTT := Lib.hid (text_all x.size x _ w1 (Nat.le_refl _) HG.out.2 HG.out.1 (HE0.out.below HB1.out (Nat.le_refl _)) (AskV.below HB1.out _ _ HX0.out))
    rw [HTX.out] at HTT
    clear hg
    go_wp2_with fail
    refine Calls.mono HTT.out ?_
    rintro e w2 ⟨rfl, hb2⟩
    have HB2 := Lib.hid hb2
    clear hb2
    go_wp2_with fail
    go_ret2
    exact ⟨rfl, HBL.out.trans ((HB1.out.trans (HB2.out.mono HB1.out.size)).mono HBL.out.size)⟩
  · have hz : (f == 0) = false := by simpa using h0
    have HTX : Hid ((⟨#[]⟩ : ByteArray) = T) := Lib.hid (by rw [← HT.out]; unfold askTxtOf; rw [if_neg (by rw [HF.out]; exact h0)])
    clear h0
    go_wp2_with fail
    go_ret2
    exact ⟨by rw [← HTX.out]; rfl, HBL.out.trans (HB1.out.mono HBL.out.size)⟩
end Go.Proofs.YtkemlckmfgacdaaGreatDoor
/- Contract: job.Text. -/
namespace Go.Proofs.YtkemlckmfgacdaaGreatDoor
open Go.ChangeShapes Go.WideShapes Go.ChangeAt Go.RowKit
set_option linter.unusedVariables false
set_option linter.unusedSimpArgs false
open Tp Jm
/-- the text that job.Text tells -/
def jobTxt (j : Jb) : ByteArray := if j.fault = 0 then bts j.text else ⟨#[]⟩
theorem join5 (a b c d e : Bs) : Lib.join [a, b, c, d, e] [32] = a ++ 32 :: (b ++ 32 :: (c ++ 32 :: (d ++ 32 :: e))) := by
  rw [Lib.join_cons]
  simp [Lib.joinTail]
theorem needText_len {a b c : Int} (h : needB a b c = true) : (Nt.needText (a.toNat, b.toNat, c.toNat)).length ≤ 72 := by
  have := txtN_len (can_of h) 3 (Nat.le_refl _)
  rw [needText_txt]
  split
  · simp
  · omega
theorem aftT_len {l : List Int} (h8 : l.length ≤ 8) (hb : ∀ m, m ∈ l → 1 ≤ m ∧ m ≤ 60) : (aftT l).length ≤ 24 := by
  unfold aftT
  split
  · simp
  · have := joinC_len (m := 2) (l.map Nt.decI) (decs_len l hb)
    rw [List.length_map] at this
    omega
theorem decI_len {n : Int} (h0 : -1000 ≤ n) (h1 : n ≤ 1000) : (Nt.decI n).length ≤ 5 := by
  unfold Nt.decI
  split
  · have := Nt.dec_len 3 n.natAbs (by omega)
    simp only [List.length_cons]; omega
  · have := Nt.dec_len 3 n.toNat (by omega)
    omega
theorem lab_le {u : Bs} (h : lab u = true) : u.length ≤ 20 := by
  by_cases hl : u.length < 1 ∨ 20 < u.length
  · rw [lab_len hl] at h; cases h
  · omega
/-- how long the parts of a good job's text are -/
theorem text_sizes {j : Jb} (h : j.fault = 0) : j.user.length ≤ 20 ∧ (Nt.decI j.prio).length ≤ 5 ∧ (Nt.needText (j.a.toNat, j.b.toNat, j.c.toNat)).length ≤ 72 ∧ (aftT j.after).length ≤ 24 ∧ (Ar.txt j.ask).length ≤ 2700 := by
  obtain ⟨h1, h2, h3, h4, h5, h6⟩ := fault_parts h
  refine ⟨lab_le h1, decI_len h2.1 h2.2, needText_len h3, aftT_len h5 (aftE_at _ _ h6), ?_⟩
  have hg := Ar.fault_good h4
  have := Ar.txt_len j.ask.size j.ask (Nat.le_refl _) (by have h := h4; unfold Ask.fault at h; rw [if_neg (by have := hg.2; omega)] at h; exact h)
  omega
set_option maxRecDepth 20000 in
set_option maxHeartbeats 16000000 in
theorem jobText_any (j : Jb) (v : Value) (w : World) (hs : j.ask.size ≤ 1000000000) (he : Env w) (hv : JobV w j v) : Calls Tryz.prog 6 #[v] w fun e w' => e = .returned (.tuple #[.string (jobTxt j), .int .i64 j.fault]) ∧ Below w.heap.size w w' := by
  obtain ⟨x0, x1, x2, x3, xd, xl, xc, aa, ac, rfl, hp⟩ := hv
  unfold jobVal
  obtain ⟨u, P, a, b, c, x, l⟩ := j
  simp only at hp hs ⊢
  obtain ⟨U, hU⟩ : ∃ U, bts u = U := ⟨_, rfl⟩
  obtain ⟨n, hn⟩ : ∃ n, l.length = n := ⟨_, rfl⟩
  rw [hU, hn]
  obtain ⟨B, hB⟩ : ∃ B, B = w.heap.size := ⟨_, rfl⟩
  obtain ⟨W0, hW0⟩ : ∃ W, W = w.alloc (.cells #[.string U, .int .i64 P, .int .i64 a, .int .i64 b, .int .i64 c, .int .i64 x0, .string x1, .string x2, .int .i64 x3, .slice xd xl xc, .slice aa n ac] 29) := ⟨_, rfl⟩
  have hb0 : Below w.heap.size w W0 := by rw [hW0]; exact (Below.refl _ _).alloc (Nat.le_refl _) _
  have b0 : W0.cell? ⟨B, 0, none⟩ = some (.string U) := by rw [hW0]; exact (cell_top _ _ _ _ _ hB).trans rfl
  have b1 : W0.cell? ⟨B, 1, none⟩ = some (.int .i64 P) := by rw [hW0]; exact (cell_top _ _ _ _ _ hB).trans rfl
  have b2 : W0.cell? ⟨B, 2, none⟩ = some (.int .i64 a) := by rw [hW0]; exact (cell_top _ _ _ _ _ hB).trans rfl
  have b3 : W0.cell? ⟨B, 3, none⟩ = some (.int .i64 b) := by rw [hW0]; exact (cell_top _ _ _ _ _ hB).trans rfl
  have b4 : W0.cell? ⟨B, 4, none⟩ = some (.int .i64 c) := by rw [hW0]; exact (cell_top _ _ _ _ _ hB).trans rfl
  have b5 : W0.cell? ⟨B, 5, none⟩ = some (.int .i64 x0) := by rw [hW0]; exact (cell_top _ _ _ _ _ hB).trans rfl
  have b6 : W0.cell? ⟨B, 6, none⟩ = some (.string x1) := by rw [hW0]; exact (cell_top _ _ _ _ _ hB).trans rfl
  have b7 : W0.cell? ⟨B, 7, none⟩ = some (.string x2) := by rw [hW0]; exact (cell_top _ _ _ _ _ hB).trans rfl
  have b8 : W0.cell? ⟨B, 8, none⟩ = some (.int .i64 x3) := by rw [hW0]; exact (cell_top _ _ _ _ _ hB).trans rfl
  have b9 : W0.cell? ⟨B, 9, none⟩ = some (.slice xd xl xc) := by rw [hW0]; exact (cell_top _ _ _ _ _ hB).trans rfl
  have b10 : W0.cell? ⟨B, 10, none⟩ = some (.slice aa n ac) := by rw [hW0]; exact (cell_top _ _ _ _ _ hB).trans rfl
  have hBl : B < W0.heap.size := by rw [hW0, hB]; simp
  have HB0 := Lib.hid hb0
  have HEV : Hid (∀ W, Below w.heap.size w W → Env W) := Lib.hid (fun W h => he.below h (Nat.le_refl _))
  have HCK : Hid (Calls Tryz.prog 9 #[.agg #[.string U, .int .i64 P, .int .i64 a, .int .i64 b, .int .i64 c, .int .i64 x0, .string x1, .string x2, .int .i64 x3, .slice xd xl xc, .slice aa n ac]] W0 fun e w' => e = .returned (.int .i64 (Jb.mk u P a b c x l).fault) ∧ Below W0.heap.size W0 w') := Lib.hid (by
    have := jobCheck_any (Jb.mk u P a b c x l) _ W0 hs ⟨x0, x1, x2, x3, xd, xl, xc, aa, ac, rfl, hp.below hb0⟩
    unfold jobVal at this
    rw [hU, hn] at this
    exact this)
  obtain ⟨F, hF⟩ : ∃ F, (Jb.mk u P a b c x l).fault = F := ⟨_, rfl⟩
  have HF := Lib.hid hF
  obtain ⟨T, hT⟩ : ∃ T, jobTxt (Jb.mk u P a b c x l) = T := ⟨_, rfl⟩
  have HT := Lib.hid hT
  rw [hF] at HCK
  rw [hF, hT]
  have HTX : Hid (∀ W, Below w.heap.size w W → Calls Tryz.prog 26 #[.agg #[.int .i64 a, .int .i64 b, .int .i64 c]] W fun e w' => e = .returned (.tuple #[.string (txtOf a b c), .int .i64 (needE a b c)]) ∧ Below W.heap.size W w') := Lib.hid (fun W h => Text_any a b c W (HEV.out W h))
  have HAX : Hid (∀ W, Below w.heap.size w W → Calls Tryz.prog 27 #[.agg #[.int .i64 x0, .string x1, .string x2, .int .i64 x3, .slice xd xl xc]] W fun e w' => e = .returned (.tuple #[.string (askTxtOf x), .int .i64 x.fault]) ∧ Below W.heap.size W w') := Lib.hid (fun W h => askText_any x _ W hs (HEV.out W h) (AskV.below h _ _ hp.ask))
  have HVV : Hid (∀ W, Below w.heap.size w W → Vals W aa (ints l)) := Lib.hid (fun W h => hp.aft.below h (Nat.le_refl _))
  by_cases hf0 : F = 0
  · have hft : (Jb.mk u P a b c x l).fault = 0 := hF.trans hf0
    obtain ⟨g1, g2, g3, g4, g5, g6⟩ := fault_parts hft
    simp only at g1 g2 g3 g4 g5 g6
    obtain ⟨s1, s2, s3, s4, s5⟩ := text_sizes hft
    simp only at s1 s2 s3 s4 s5
    have hgb := aftE_at l 0 g6
    obtain ⟨N, hN⟩ : ∃ N, bts (Nt.needText (a.toNat, b.toNat, c.toNat)) = N := ⟨_, rfl⟩
    obtain ⟨X, hX⟩ : ∃ N, bts (Ar.txt x) = N := ⟨_, rfl⟩
    obtain ⟨Dp, hDp⟩ : ∃ N, bts (Nt.decI P) = N := ⟨_, rfl⟩
    obtain ⟨Af, hAf⟩ : ∃ N, bts (aftT l) = N := ⟨_, rfl⟩
    rw [show txtOf a b c = N by rw [← hN]; unfold txtOf; rw [g3]; rfl] at HTX
    rw [show needE a b c = 0 by unfold needE; rw [g3]; rfl] at HTX
    rw [show askTxtOf x = X by rw [← hX]; unfold askTxtOf; rw [if_pos g4], g4] at HAX
    have HIT : Hid (∀ W, Below w.heap.size w W → Calls Tryz.prog 29 #[.int .i64 P] W fun e w' => e = .returned (.string Dp) ∧ Below W.heap.size W w') := Lib.hid (fun W h => by rw [← hDp]; exact Itoa_any P W (by omega) (by omega) (HEV.out W h))
    have HAF : Hid (∀ W, Below w.heap.size w W → Calls Tryz.prog 30 #[.slice aa n ac] W fun e w' => e = .returned (.string Af) ∧ Below W.heap.size W w') := Lib.hid (fun W h => by rw [← hAf]; exact after_any l aa n ac W hn (by omega) hgb (HEV.out W h) (HVV.out W h))
    have HJN : Hid (∀ W : World, Calls Tryz.prog 28 #[.slice (some ⟨W.heap.size, 0, none⟩) 5 5, .string ⟨#[32]⟩] (W.alloc (.cells #[.string U, .string Dp, .string N, .string Af, .string X] 9)) fun e w' => e = .returned (.string T) ∧ Below (W.alloc (.cells #[.string U, .string Dp, .string N, .string Af, .string X] 9)).heap.size (W.alloc (.cells #[.string U, .string Dp, .string N, .string Af, .string X] 9)) w') := Lib.hid (fun W => by
      have ej : Lib.join (([U, Dp, N, Af, X] : List ByteArray).map (·.data.toList)) (bts [32]).data.toList = (Jb.mk u P a b c x l).text := by
        rw [← hU, ← hN, ← hX, ← hDp, ← hAf]
        exact join5 _ _ _ _ _
      have h := Tryz.strings_Join W.heap.size 0 5 [U, Dp, N, Af, X] (bts [32]) (W.alloc (.cells #[.string U, .string Dp, .string N, .string Af, .string X] 9)) (fun k y hk => by
        rw [cell_top _ _ _ _ _ rfl, Nat.zero_add]
        match k, hk with
        | 0, hk => cases hk; rfl
        | 1, hk => cases hk; rfl
        | 2, hk => cases hk; rfl
        | 3, hk => cases hk; rfl
        | 4, hk => cases hk; rfl) (by simp) (by simp) (by simp) (by
        rw [ej]
        unfold Jb.text
        simp only [List.length_append, List.length_cons]
        omega)
      rw [ej] at h
      rw [← HT.out, show jobTxt (Jb.mk u P a b c x l) = bts (Jb.mk u P a b c x l).text by unfold jobTxt; rw [if_pos hft]]
      exact h)
    subst hf0
    clear hp hs he hU hn hF hT hft g1 g2 g3 g4 g5 g6 s1 s2 s3 s4 s5 hgb hN hX hDp hAf hb0
    go_enter Tryz.func6, Tryz.ntmps6
    go_upto_region 1 with fail
    rw [← hW0, ← hB]
    clear hW0 hB
    go_wp2_with fail
    refine Calls.mono (HCK.out) ?_
    rintro e W1 ⟨rfl, hbn⟩
    have HB1 := Lib.hid (HB0.out.trans (hbn.mono HB0.out.size))
    replace b0 := (hbn.cell (p := ⟨B, 0, none⟩) hBl).trans b0
    replace b1 := (hbn.cell (p := ⟨B, 1, none⟩) hBl).trans b1
    replace b2 := (hbn.cell (p := ⟨B, 2, none⟩) hBl).trans b2
    replace b3 := (hbn.cell (p := ⟨B, 3, none⟩) hBl).trans b3
    replace b4 := (hbn.cell (p := ⟨B, 4, none⟩) hBl).trans b4
    replace b5 := (hbn.cell (p := ⟨B, 5, none⟩) hBl).trans b5
    replace b6 := (hbn.cell (p := ⟨B, 6, none⟩) hBl).trans b6
    replace b7 := (hbn.cell (p := ⟨B, 7, none⟩) hBl).trans b7
    replace b8 := (hbn.cell (p := ⟨B, 8, none⟩) hBl).trans b8
    replace b9 := (hbn.cell (p := ⟨B, 9, none⟩) hBl).trans b9
    replace b10 := (hbn.cell (p := ⟨B, 10, none⟩) hBl).trans b10
    replace hBl := Nat.lt_of_lt_of_le hBl hbn.size
    clear hbn
    go_wp2_with fail
    refine Calls.mono (HTX.out W1 HB1.out) ?_
    rintro e W2 ⟨rfl, hbn⟩
    have HB2 := Lib.hid (HB1.out.trans (hbn.mono HB1.out.size))
    replace b0 := (hbn.cell (p := ⟨B, 0, none⟩) hBl).trans b0
    replace b1 := (hbn.cell (p := ⟨B, 1, none⟩) hBl).trans b1
    replace b2 := (hbn.cell (p := ⟨B, 2, none⟩) hBl).trans b2
    replace b3 := (hbn.cell (p := ⟨B, 3, none⟩) hBl).trans b3
    replace b4 := (hbn.cell (p := ⟨B, 4, none⟩) hBl).trans b4
    replace b5 := (hbn.cell (p := ⟨B, 5, none⟩) hBl).trans b5
    replace b6 := (hbn.cell (p := ⟨B, 6, none⟩) hBl).trans b6
    replace b7 := (hbn.cell (p := ⟨B, 7, none⟩) hBl).trans b7
    replace b8 := (hbn.cell (p := ⟨B, 8, none⟩) hBl).trans b8
    replace b9 := (hbn.cell (p := ⟨B, 9, none⟩) hBl).trans b9
    replace b10 := (hbn.cell (p := ⟨B, 10, none⟩) hBl).trans b10
    replace hBl := Nat.lt_of_lt_of_le hBl hbn.size
    clear hbn
    go_wp2_with fail
    refine Calls.mono (HAX.out W2 HB2.out) ?_
    rintro e W3 ⟨rfl, hbn⟩
    have HB3 := Lib.hid (HB2.out.trans (hbn.mono HB2.out.size))
    replace b0 := (hbn.cell (p := ⟨B, 0, none⟩) hBl).trans b0
    replace b1 := (hbn.cell (p := ⟨B, 1, none⟩) hBl).trans b1
    replace b2 := (hbn.cell (p := ⟨B, 2, none⟩) hBl).trans b2
    replace b3 := (hbn.cell (p := ⟨B, 3, none⟩) hBl).trans b3
    replace b4 := (hbn.cell (p := ⟨B, 4, none⟩) hBl).trans b4
    replace b5 := (hbn.cell (p := ⟨B, 5, none⟩) hBl).trans b5
    replace b6 := (hbn.cell (p := ⟨B, 6, none⟩) hBl).trans b6
    replace b7 := (hbn.cell (p := ⟨B, 7, none⟩) hBl).trans b7
    replace b8 := (hbn.cell (p := ⟨B, 8, none⟩) hBl).trans b8
    replace b9 := (hbn.cell (p := ⟨B, 9, none⟩) hBl).trans b9
    replace b10 := (hbn.cell (p := ⟨B, 10, none⟩) hBl).trans b10
    replace hBl := Nat.lt_of_lt_of_le hBl hbn.size
    clear hbn
    go_upto_region 6 with fail
    refine wp_region_held_drew (S := fun W => Below W3.heap.size W3 W) (by kernel_rfl) ((Below.refl _ _).drew) (fun hHeld => ?_)
    refine wpAnyH_take (i := 0) (v := ?vb1b0x1) rfl (by kernel_rfl) (by kernel_rfl) (by kernel_rfl) (fun _ _ _ h => h) (Or.inl ⟨by rfl, ?hyb1b0x1⟩) (by assumption) ?restb1b0x1
    case hyb1b0x1 =>
      intro w hSw
      (try dsimp only at hSw)
      go_simp
      (try with_reducible rfl)
    change wpAnyH _ _ _ _ _ _ _ (Act.put _ (some 26) _) _
    try simp only [Act.put, List.setIfInBounds_toArray, List.set_cons_zero, List.set_cons_succ]
    refine wpAnyH_take (i := 1) (v := ?vb1b1x2) rfl (by kernel_rfl) (by kernel_rfl) (by kernel_rfl) (fun _ _ _ h => h) (Or.inl ⟨by rfl, ?hyb1b1x2⟩) (by assumption) ?restb1b1x2
    case hyb1b1x2 =>
      intro w hSw
      (try dsimp only at hSw)
      have b0 := (hSw.cell (p := ⟨B, 0, none⟩) hBl).trans b0
      have b1 := (hSw.cell (p := ⟨B, 1, none⟩) hBl).trans b1
      have b2 := (hSw.cell (p := ⟨B, 2, none⟩) hBl).trans b2
      have b3 := (hSw.cell (p := ⟨B, 3, none⟩) hBl).trans b3
      have b4 := (hSw.cell (p := ⟨B, 4, none⟩) hBl).trans b4
      have b5 := (hSw.cell (p := ⟨B, 5, none⟩) hBl).trans b5
      have b6 := (hSw.cell (p := ⟨B, 6, none⟩) hBl).trans b6
      have b7 := (hSw.cell (p := ⟨B, 7, none⟩) hBl).trans b7
      have b8 := (hSw.cell (p := ⟨B, 8, none⟩) hBl).trans b8
      have b9 := (hSw.cell (p := ⟨B, 9, none⟩) hBl).trans b9
      have b10 := (hSw.cell (p := ⟨B, 10, none⟩) hBl).trans b10
      go_simp
      (try with_reducible rfl)
    change wpAnyH _ _ _ _ _ _ _ (Act.put _ (some 27) _) _
    try simp only [Act.put, List.setIfInBounds_toArray, List.set_cons_zero, List.set_cons_succ]
    refine wpAnyH_take (i := 2) (v := ?vb1b2x3) rfl (by kernel_rfl) (by kernel_rfl) (by kernel_rfl) (fun _ _ _ h => h) (Or.inl ⟨by rfl, ?hyb1b2x3⟩) (by assumption) ?restb1b2x3
    case hyb1b2x3 =>
      intro w hSw
      (try dsimp only at hSw)
      go_simp
      (try with_reducible rfl)
    change wpAnyH _ _ _ _ _ _ _ (Act.put _ (some 28) _) _
    try simp only [Act.put, List.setIfInBounds_toArray, List.set_cons_zero, List.set_cons_succ]
    refine wpAnyH_take (i := 3) (v := ?vb1b3x4) rfl (by kernel_rfl) (by kernel_rfl) (by kernel_rfl) (fun _ _ _ h => h) (Or.inl ⟨by rfl, ?hyb1b3x4⟩) (by assumption) ?restb1b3x4
    case hyb1b3x4 =>
      intro w hSw
      (try dsimp only at hSw)
      have b0 := (hSw.cell (p := ⟨B, 0, none⟩) hBl).trans b0
      have b1 := (hSw.cell (p := ⟨B, 1, none⟩) hBl).trans b1
      have b2 := (hSw.cell (p := ⟨B, 2, none⟩) hBl).trans b2
      have b3 := (hSw.cell (p := ⟨B, 3, none⟩) hBl).trans b3
      have b4 := (hSw.cell (p := ⟨B, 4, none⟩) hBl).trans b4
      have b5 := (hSw.cell (p := ⟨B, 5, none⟩) hBl).trans b5
      have b6 := (hSw.cell (p := ⟨B, 6, none⟩) hBl).trans b6
      have b7 := (hSw.cell (p := ⟨B, 7, none⟩) hBl).trans b7
      have b8 := (hSw.cell (p := ⟨B, 8, none⟩) hBl).trans b8
      have b9 := (hSw.cell (p := ⟨B, 9, none⟩) hBl).trans b9
      have b10 := (hSw.cell (p := ⟨B, 10, none⟩) hBl).trans b10
      go_simp
      (try with_reducible rfl)
    change wpAnyH _ _ _ _ _ _ _ (Act.put _ (some 29) _) _
    try simp only [Act.put, List.setIfInBounds_toArray, List.set_cons_zero, List.set_cons_succ]
    refine wpAnyH_take (i := 5) (v := ?vb1b5x5) rfl (by kernel_rfl) (by kernel_rfl) (by kernel_rfl) (fun _ _ _ h => h) (Or.inl ⟨by rfl, ?hyb1b5x5⟩) (by assumption) ?restb1b5x5
    case hyb1b5x5 =>
      intro w hSw
      (try dsimp only at hSw)
      go_simp
      (try with_reducible rfl)
    change wpAnyH _ _ _ _ _ _ _ (Act.put _ (some 31) _) _
    try simp only [Act.put, List.setIfInBounds_toArray, List.set_cons_zero, List.set_cons_succ]
    refine wpAnyH_take (i := 6) (v := ?vb1b6x6) rfl (by kernel_rfl) (by kernel_rfl) (by kernel_rfl) (fun _ _ _ h => h) (Or.inl ⟨by rfl, ?hyb1b6x6⟩) (by assumption) ?restb1b6x6
    case hyb1b6x6 =>
      intro w hSw
      (try dsimp only at hSw)
      go_simp
      (try with_reducible rfl)
    change wpAnyH _ _ _ _ _ _ _ (Act.put _ (some 32) _) _
    try simp only [Act.put, List.setIfInBounds_toArray, List.set_cons_zero, List.set_cons_succ]
    refine wpAnyH_take (i := 7) (v := ?vb1b7x7) rfl (by kernel_rfl) (by kernel_rfl) (by kernel_rfl) (fun _ _ _ h => h) (Or.inl ⟨by rfl, ?hyb1b7x7⟩) (by assumption) ?restb1b7x7
    case hyb1b7x7 =>
      intro w hSw
      (try dsimp only at hSw)
      have b0 := (hSw.cell (p := ⟨B, 0, none⟩) hBl).trans b0
      have b1 := (hSw.cell (p := ⟨B, 1, none⟩) hBl).trans b1
      have b2 := (hSw.cell (p := ⟨B, 2, none⟩) hBl).trans b2
      have b3 := (hSw.cell (p := ⟨B, 3, none⟩) hBl).trans b3
      have b4 := (hSw.cell (p := ⟨B, 4, none⟩) hBl).trans b4
      have b5 := (hSw.cell (p := ⟨B, 5, none⟩) hBl).trans b5
      have b6 := (hSw.cell (p := ⟨B, 6, none⟩) hBl).trans b6
      have b7 := (hSw.cell (p := ⟨B, 7, none⟩) hBl).trans b7
      have b8 := (hSw.cell (p := ⟨B, 8, none⟩) hBl).trans b8
      have b9 := (hSw.cell (p := ⟨B, 9, none⟩) hBl).trans b9
      have b10 := (hSw.cell (p := ⟨B, 10, none⟩) hBl).trans b10
      go_simp
      (try with_reducible rfl)
    change wpAnyH _ _ _ _ _ _ _ (Act.put _ (some 33) _) _
    try simp only [Act.put, List.setIfInBounds_toArray, List.set_cons_zero, List.set_cons_succ]
    refine wpAnyH_take (i := 9) (v := ?vb1b9x8) rfl (by kernel_rfl) (by kernel_rfl) (by kernel_rfl) (fun _ _ _ h => h) (Or.inl ⟨by rfl, ?hyb1b9x8⟩) (by assumption) ?restb1b9x8
    case hyb1b9x8 =>
      intro w hSw
      (try dsimp only at hSw)
      go_simp
      (try with_reducible rfl)
    change wpAnyH _ _ _ _ _ _ _ (Act.put _ (some 35) _) _
    try simp only [Act.put, List.setIfInBounds_toArray, List.set_cons_zero, List.set_cons_succ]
    refine wpAnyH_ready (rs := [4]) (by kernel_rfl) (by simp) ?_
    refine AllReadyH.cons rfl (fun K hK => ?_) AllReadyH.nil
    go_simp
    go_at_call 29
    refine Calls.mono (HIT.out _ (HB3.out.trans (hHeld.mono HB3.out.size))) ?_
    rintro e w1 ⟨rfl, hb1⟩
    (try go_wp2_with fail)
    refine hK.out _ _ (hHeld.trans (hb1.mono hHeld.size)) (fun hHeld => ?_)
    clear hK K
    try simp only [Act.put, List.setIfInBounds_toArray, List.set_cons_zero, List.set_cons_succ]
    refine wpAnyH_ready (rs := [8]) (by kernel_rfl) (by simp) ?_
    refine AllReadyH.cons rfl (fun K hK => ?_) AllReadyH.nil
    go_simp
    go_at_call 30
    refine Calls.mono (HAF.out _ (HB3.out.trans (hHeld.mono HB3.out.size))) ?_
    rintro e w2 ⟨rfl, hb2⟩
    (try go_wp2_with fail)
    refine hK.out _ _ (hHeld.trans (hb2.mono hHeld.size)) (fun hHeld => ?_)
    clear hK K
    try simp only [Act.put, List.setIfInBounds_toArray, List.set_cons_zero, List.set_cons_succ]
    refine wpAnyH_ready (rs := [10]) (by kernel_rfl) (by simp) ?_
    refine AllReadyH.cons rfl (fun K hK => ?_) AllReadyH.nil
    go_simp
    (try go_wp2_with fail)
    refine hK.out _ _ (hHeld.alloc hHeld.size _) (fun hHeld => ?_)
    clear hK K
    try simp only [Act.put, List.setIfInBounds_toArray, List.set_cons_zero, List.set_cons_succ]
    refine wpAnyH_ready (rs := [11]) (by kernel_rfl) (by simp) ?_
    refine AllReadyH.cons rfl (fun K hK => ?_) AllReadyH.nil
    go_simp
    go_at_call 28
    refine Calls.mono (HJN.out _) ?_
    rintro e w3 ⟨rfl, hb3⟩
    (try go_wp2_with fail)
    refine hK.out _ _ (hHeld.trans (hb3.mono hHeld.size)) (fun hHeld => ?_)
    clear hK K
    try simp only [Act.put, List.setIfInBounds_toArray, List.set_cons_zero, List.set_cons_succ]
    refine wpAnyH_take (i := 12) (v := ?vb1b12x9) rfl (by kernel_rfl) (by kernel_rfl) (by kernel_rfl) (fun _ _ _ h => h) (Or.inl ⟨by rfl, ?hyb1b12x9⟩) (by assumption) ?restb1b12x9
    case hyb1b12x9 =>
      intro w hSw
      (try dsimp only at hSw)
      go_simp
      (try with_reducible rfl)
    change wpAnyH _ _ _ _ _ _ _ (Act.put _ (some 2) _) _
    try simp only [Act.put, List.setIfInBounds_toArray, List.set_cons_zero, List.set_cons_succ]
    refine wpAnyH_take (i := 13) (v := ?vb1b13x10) rfl (by kernel_rfl) (by kernel_rfl) (by kernel_rfl) (fun _ _ _ h => h) (Or.inl ⟨by rfl, ?hyb1b13x10⟩) (by assumption) ?restb1b13x10
    case hyb1b13x10 =>
      intro w hSw
      (try dsimp only at hSw)
      go_simp
      (try with_reducible rfl)
    change wpAnyH _ _ _ _ _ _ _ (Act.put _ (some 3) _) _
    try simp only [Act.put, List.setIfInBounds_toArray, List.set_cons_zero, List.set_cons_succ]
    refine wpAnyH_done (by kernel_rfl) ?_ _
    go_wp2_with fail
    go_ret2
    exact ⟨rfl, HB3.out.trans (hHeld.mono HB3.out.size)⟩
  · obtain rfl : T = ⟨#[]⟩ := by rw [← hT]; unfold jobTxt; rw [if_neg (by rw [hF]; exact hf0)]
    have hz : (F == 0) = false := by simpa using hf0
    have hz2 : (F != 0) = true := by simpa using hf0
    clear hp hs he hU hn hF hT hf0 hb0
    go_enter Tryz.func6, Tryz.ntmps6
    go_upto_region 1 with fail
    rw [← hW0, ← hB]
    clear hW0 hB
    go_wp2_with fail
    refine Calls.mono (HCK.out) ?_
    rintro e W1 ⟨rfl, hbn⟩
    have HB1 := Lib.hid (HB0.out.trans (hbn.mono HB0.out.size))
    replace b0 := (hbn.cell (p := ⟨B, 0, none⟩) hBl).trans b0
    replace b1 := (hbn.cell (p := ⟨B, 1, none⟩) hBl).trans b1
    replace b2 := (hbn.cell (p := ⟨B, 2, none⟩) hBl).trans b2
    replace b3 := (hbn.cell (p := ⟨B, 3, none⟩) hBl).trans b3
    replace b4 := (hbn.cell (p := ⟨B, 4, none⟩) hBl).trans b4
    replace b5 := (hbn.cell (p := ⟨B, 5, none⟩) hBl).trans b5
    replace b6 := (hbn.cell (p := ⟨B, 6, none⟩) hBl).trans b6
    replace b7 := (hbn.cell (p := ⟨B, 7, none⟩) hBl).trans b7
    replace b8 := (hbn.cell (p := ⟨B, 8, none⟩) hBl).trans b8
    replace b9 := (hbn.cell (p := ⟨B, 9, none⟩) hBl).trans b9
    replace b10 := (hbn.cell (p := ⟨B, 10, none⟩) hBl).trans b10
    replace hBl := Nat.lt_of_lt_of_le hBl hbn.size
    clear hbn
    go_wp2_with fail
    go_ret2
    exact ⟨rfl, HB1.out⟩
end Go.Proofs.YtkemlckmfgacdaaGreatDoor
/- Contract: the text of an atom, the document's. -/
namespace Go.Proofs.YtkemlckmfgacdaaGreatDoor
open Go.ChangeShapes Go.WideShapes Go.ChangeAt Go.RowKit
set_option linter.unusedVariables false
open Tp
set_option maxRecDepth 20000 in
set_option maxHeartbeats 4000000 in
theorem refTextA (x : Ask) (v : Value) (w : World) (he : x.err = 0) (h3 : x.kind ≤ 3) (hx : AskV w x v) : Calls Tryz.prog 43 #[v] w fun e w' => e = .returned (.string (bts (Ar.txt x))) ∧ Below w.heap.size w w' := by
  cases x with
  | mk k ka va nu l =>
  rw [AskV] at hx
  obtain ⟨ad, n, cap, rfl, hrest⟩ := hx
  clear hrest
  obtain ⟨hb0, hes⟩ := Ask.err_zero he
  obtain ⟨hk1, hk6, hlen, hn0, hnu, hnu2, _, _, hu, hl1, hl2⟩ := Ask.bad_zero hb0
  have h3 : k ≤ 3 := h3
  clear hb0 hes hlen he
  have hka : ka.length ≤ 20 := by
    by_cases h : k = 3
    · exact unit_short (hu h)
    · exact lab_short (hl1 (by omega))
  obtain ⟨V, hV⟩ : ∃ V, (Ar.txt (Ask.mk k ka va nu l)) = V := ⟨_, rfl⟩
  have HV := Lib.hid hV
  rw [hV]
  clear hV
  obtain ⟨a1, ha1⟩ : ∃ a, bts ka = a := ⟨_, rfl⟩
  obtain ⟨a2, ha2⟩ : ∃ a, bts va = a := ⟨_, rfl⟩
  have HA1 := Lib.hid ha1
  have HA2 := Lib.hid ha2
  have hs1 : a1.size ≤ 20 := by rw [← ha1, bts_size]; exact hka
  rw [ha1, ha2]
  have hb9 : Below w.heap.size w (w.alloc (.cells #[.int .i64 k, .string a1, .string a2, .int .i64 nu, .slice ad n cap] 26)) := (Below.refl _ _).alloc (Nat.le_refl _) _
  have HB9 := Lib.hid hb9
  by_cases h1 : k = 1
  · subst h1
    have HR : Hid ((⟨#[63]⟩ : ByteArray) ++ a1 = bts V) := Lib.hid (by rw [← HV.out, ← HA1.out, add1]; rfl)
    have h63 : (⟨#[63]⟩ : ByteArray).size = 1 := rfl
    clear ha1 ha2 hu hl1 hl2 hb9 hk1 hk6 h3 hn0 hnu hnu2
    go_enter Tryz.func43, Tryz.ntmps43
    go_wp2_with fail
    go_ret
    exact ⟨by rw [← HR.out]; rfl, HB9.out⟩
  by_cases h2 : k = 2
  · have hs2 : a2.size ≤ 20 := by rw [← ha2, bts_size]; exact lab_short (hl2 h2)
    subst h2
    have HR : Hid (a1 ++ (⟨#[61]⟩ : ByteArray) ++ a2 = bts V) := Lib.hid (by rw [← HV.out, ← HA1.out, ← HA2.out, add2]; rfl)
    obtain ⟨p1, hp1⟩ : ∃ p, a1 ++ (⟨#[61]⟩ : ByteArray) = p := ⟨_, rfl⟩
    have h61 : (⟨#[61]⟩ : ByteArray).size = 1 := rfl
    have hsp : p1.size ≤ 21 := by rw [← hp1, ByteArray.size_append]; omega
    rw [hp1] at HR
    clear ha1 ha2 hu hl1 hl2 hb9 hk1 hk6 h3 hn0 hnu hnu2
    go_enter Tryz.func43, Tryz.ntmps43
    go_wp2_with fail
    go_ret
    exact ⟨by rw [← HR.out]; rfl, HB9.out⟩
  · obtain rfl : k = 3 := by omega
    obtain ⟨u, rfl⟩ : ∃ u : Nat, nu = (u : Int) := ⟨nu.toNat, by omega⟩
    have hu9 : u ≤ 1099511627776 := by omega
    obtain ⟨D, hD⟩ : ∃ D, bts (Nt.dec u) = D := ⟨_, rfl⟩
    have hsd : D.size ≤ 19 := by rw [← hD, bts_size]; exact Nt.dec_len 18 u (by omega)
    have HR : Hid (a1 ++ (⟨#[62, 61]⟩ : ByteArray) ++ D = bts V) := Lib.hid (by rw [← HV.out, ← HA1.out, ← hD, add3]; rfl)
    obtain ⟨p1, hp1⟩ : ∃ p, a1 ++ (⟨#[62, 61]⟩ : ByteArray) = p := ⟨_, rfl⟩
    have h62 : (⟨#[62, 61]⟩ : ByteArray).size = 2 := rfl
    have hsp : p1.size ≤ 22 := by rw [← hp1, ByteArray.size_append]; omega
    rw [hp1] at HR
    have hnn1 : ¬ 9223372036854775807 < a1.size + 2 := by omega
    have hnn2 : ¬ 9223372036854775807 < p1.size + D.size := by omega
    obtain ⟨W0, hW0⟩ : ∃ W, W = w.alloc (.cells #[.int .i64 3, .string a1, .string a2, .int .i64 (u : Int), .slice ad n cap] 26) := ⟨_, rfl⟩
    rw [← hW0] at HB9
    obtain ⟨cx, hcx⟩ : ∃ c, c = w.heap.size := ⟨_, rfl⟩
    have d1 : W0.cell? ⟨cx, 1, none⟩ = some (.string a1) := by rw [hcx, hW0]; simp
    have d3 : W0.cell? ⟨cx, 3, none⟩ = some (.int .i64 (u : Int)) := by rw [hcx, hW0]; simp
    have d0 : W0.cell? ⟨cx, 0, none⟩ = some (.int .i64 3) := by rw [hcx, hW0]; simp
    have hc0 : cx < W0.heap.size := by rw [hcx, hW0]; simp
    have HC : Hid (∀ W, Below W0.heap.size W0 W → Calls Tryz.prog 41 #[.int .i64 (u : Int)] W fun e w' => e = .returned (.string D) ∧ Below W.heap.size W w') := Lib.hid (fun W hW => by have h := DecimalW_any (u : Int) W (by omega) (by omega); rw [show Nt.decI (u : Int) = Nt.dec u from by unfold Nt.decI; rw [if_neg (by omega), Int.toNat_natCast], hD] at h; exact h)
    clear ha1 ha2 hu hl1 hl2 hb9 hk1 hk6 h3 hn0 hnu hnu2 hD h1 h2
    have d1d : W0.drew.cell? ⟨cx, 1, none⟩ = some (.string a1) := d1
    have d3d : W0.drew.cell? ⟨cx, 3, none⟩ = some (.int .i64 (u : Int)) := d3
    go_enter Tryz.func43, Tryz.ntmps43
    go_upto_region 7 with fail
    rw [← hW0, ← hcx]
    clear hW0 hcx
    first | (go_region_held3 (fun W => W.cell? ⟨cx, 1, none⟩ = some (.string a1) ∧ W.cell? ⟨cx, 3, none⟩ = some (.int .i64 (u : Int))) (first | with_reducible exact ⟨d1, d3⟩ | with_reducible exact ⟨d1d, d3d⟩ | with_reducible exact ⟨d1a, d3a⟩ | go_keep) (first | (go_at_call 41; refine Calls.mono (HC.out _ (by first | exact Below.refl _ _ | go_grown)) ?_; rintro e w1 ⟨rfl, hb1⟩; have d1a := (hb1.cell (p := ⟨cx, 1, none⟩) hc0).trans d1; have d3a := (hb1.cell (p := ⟨cx, 3, none⟩) hc0).trans d3))) | fail
    all_goals
      go_wp2_with fail
      go_ret
      exact ⟨by rw [← HR.out]; rfl, HB9.out.trans (((show Below W0.heap.size W0 W0.drew from by go_grown).trans hb1).mono HB9.out.size)⟩
end Go.Proofs.YtkemlckmfgacdaaGreatDoor
