/- Contract: the document's AskRead. -/
import Derived.Test.YtkemlckmfgacdaaGreatDoorJobP7
import Derived.Test.YtkemlckmfgacdaaGreatDoorJobP8
import Derived.Test.YtkemlckmfgacdaaGreatDoorJobP6
import Derived.Test.YtkemlckmfgacdaaGreatDoorJobP5
import Derived.Test.YtkemlckmfgacdaaGreatDoorJobP0
import Derived.StillTailTactics
import Derived.Deep.LoopGhost
import Derived.Deep.CutBlock
import Derived.Deep.DeepCutAuto
import Derived.Test.YtkemlckmfgacdaaGreatDoorJobP3
namespace Go.Proofs.YtkemlckmfgacdaaGreatDoor
open Go.ChangeShapes Go.WideShapes Go.ChangeAt Go.RowKit
set_option linter.unusedVariables false
set_option linter.unusedSimpArgs false
open Tp
theorem askR_less : ∀ (N : Nat) (s : Bs) (x : Ask) (r : Bs), Ar.askR N s = some (x, r) → x.size + r.length ≤ s.length
  | 0, s, x, r, h => by simp [Ar.askR] at h
  | N + 1, s, x, r, h => by
    unfold Ar.askR at h
    split at h
    · cases h
    · rename_i t
      cases h
      have := Ar.rest_len t
      simp [Ask.size, Ask.sizes]; omega
    · rename_i t
      split at h
      · cases h
      · rename_i y r' hy
        cases h
        have h1 := askR_less N _ _ _ hy
        simp [Ask.size, Ask.sizes]; omega
    · rename_i t
      split at h
      · cases h
      · rename_i a r' ha
        have h1 := askR_less N _ _ _ ha
        split at h
        · rename_i r2
          split at h
          · rename_i b r3 hb
            cases h
            have g1 := askR_less N _ _ _ hb
            simp at h1 g1
            simp [Ask.size, Ask.sizes]; omega
          · cases h
        · rename_i r2
          split at h
          · rename_i b r3 hb
            cases h
            have g1 := askR_less N _ _ _ hb
            simp at h1 g1
            simp [Ask.size, Ask.sizes]; omega
          · cases h
        · cases h
    · split at h
      · rename_i t ht
        split at h
        · cases h
          have h1 := Ar.rest_len s
          have h2 := Ar.rest_len t
          rw [ht] at h1
          simp at h1
          simp [Ask.size, Ask.sizes]; omega
        · cases h
      · rename_i t ht
        cases h
        have h1 := Ar.rest_len s
        have h2 := Ar.rest_len t
        rw [ht] at h1
        simp at h1
        simp [Ask.size, Ask.sizes]; omega
      · cases h
theorem askAt_all : ∀ (N : Nat) (s : Bs) (w : World), N ≤ 61 → s.length ≤ 2000 → Calls Tryz.prog 76 #[.string (bts s), .int .i64 (N : Int)] w (AskAtQ w (Ar.askR N s))
  | 0, s, w, hN, hs => by
    have h : Ar.askR 0 s = none := by simp [Ar.askR]
    rw [h]; exact askAt_none 0 s w hN hs (.inl rfl)
  | N + 1, [], w, hN, hs => by
    rw [askR_nil]; exact askAt_none (N + 1) [] w hN hs (.inr rfl)
  | N + 1, c :: t, w, hN, hs => by
    have hs1 : t.length ≤ 1999 := by simp only [List.length_cons] at hs; omega
    by_cases h1 : c = 63
    · subst h1; exact askAt_has N t w (by omega) hs1
    by_cases h2 : c = 33
    · subst h2; exact askAt_not N t w (by omega) hs1 (fun W => askAt_all N t W (by omega) (by omega))
    by_cases h3 : c = 40
    · subst h3; exact askAt_two N t w (by omega) hs1 (fun s' W h => askAt_all N s' W (by omega) h) (fun s' x r h => by have := askR_less N s' x r h; omega)
    rw [askR_other (by simp) (fun t' e => h1 (List.cons.inj e).1) (fun t' e => h2 (List.cons.inj e).1) (fun t' e => h3 (List.cons.inj e).1)]
    by_cases g1 : ∃ r, Ar.rest (c :: t) = 62 :: 61 :: r
    · obtain ⟨r, hr⟩ := g1
      rw [hr]; exact askAt_more N c t w (by omega) hs1 h1 h2 h3 r hr
    by_cases g2 : ∃ r, Ar.rest (c :: t) = 61 :: r
    · obtain ⟨r, hr⟩ := g2
      rw [hr]; exact askAt_is N c t w (by omega) hs1 h1 h2 h3 r hr
    rw [elseR_no (fun r e => g1 ⟨r, e⟩) (fun r e => g2 ⟨r, e⟩)]
    exact askAt_no N c t w (by omega) hs1 h1 h2 h3 (fun r e => g1 ⟨r, e⟩) (fun r e => g2 ⟨r, e⟩)
/-- what the document's reading of an ask tells -/
def AskRrQ (w : World) (o : Option Ask) (e : Ending) (w' : World) : Prop := Below w.heap.size w w' ∧ match o with
  | some x => ∃ (x0 : Int) (x1 x2 : ByteArray) (x3 : Int) (xd : Option Addr) (xl xc : Nat), e = .returned (.tuple #[.agg #[.int .i64 x0, .string x1, .string x2, .int .i64 x3, .slice xd xl xc], .bool true]) ∧ AskVP (fun b => w.heap.size ≤ b) w' x (.agg #[.int .i64 x0, .string x1, .string x2, .int .i64 x3, .slice xd xl xc])
  | none => e = .returned (.tuple #[zero5, .bool false])
set_option maxRecDepth 20000 in
set_option maxHeartbeats 16000000 in
theorem refRead_any (s : Bs) (w : World) (hs : s.length ≤ 2000) : Calls Tryz.prog 47 #[.string (bts s)] w (AskRrQ w (Ar.own (Ar.readR s) s)) := by
  obtain ⟨S, hS⟩ : ∃ S, bts s = S := ⟨_, rfl⟩
  have HS := Lib.hid hS
  obtain ⟨c, hc⟩ : ∃ c, c = w.heap.size := ⟨_, rfl⟩
  obtain ⟨W0, hW0⟩ : ∃ W, W = w.alloc (.cells #[.int .i64 0, .string ⟨#[]⟩, .string ⟨#[]⟩, .int .i64 0, .slice none 0 0] 26) := ⟨_, rfl⟩
  have HB0 : Hid (Below w.heap.size w W0) := Lib.hid (by rw [hW0]; exact (Below.refl _ _).alloc (Nat.le_refl _) _)
  have HBX0 : Hid (Box5 c W0) := Lib.hid (by rw [hW0]; exact Box5.top hc)
  have HC : Hid (c = w.heap.size) := Lib.hid hc
  have HA := Lib.hid (askAt_all 61 s W0 (by omega) hs)
  have HSL := Lib.hid hs
  rw [hS] at HA
  obtain ⟨O, hO⟩ : ∃ O, Ar.own (Ar.readR s) s = O := ⟨_, rfl⟩
  have HO := Lib.hid hO
  rw [hO, hS]
  clear hS hs hO
  go_enter Tryz.func47, Tryz.ntmps47
  go_upto_region 1 with fail
  rw [← hW0, ← hc]
  clear hW0 hc
  go_wp2_with fail
  refine Calls.mono HA.out ?_
  rintro e W2 hq
  obtain ⟨hb2, bv, x0, x1, x2, x3, xd, xl, xc, t', rfl, hq2⟩ := hq.form
  have HQ2 := Lib.hid hq2
  have HB02 := Lib.hid hb2
  have HBX2 := Lib.hid (HBX0.out.but (But.ofBelow (rb := W0.heap.size) hb2 (Nat.le_refl _)) (Nat.ne_of_lt HBX0.out.lt))
  have HB2 : Hid (Below w.heap.size w W2) := Lib.hid (HB0.out.trans (hb2.mono HB0.out.size))
  clear hb2 hq hq2
  go_upto_region 2 with fail
  obtain ⟨W3, hW3⟩ : ∃ W, W = W2.alloc (.cells #[.int .i64 x0, .string x1, .string x2, .int .i64 x3, .slice xd xl xc] 26) := ⟨_, rfl⟩
  obtain ⟨d, hd⟩ : ∃ d, d = W2.heap.size := ⟨_, rfl⟩
  have hb3 : Below W2.heap.size W2 W3 := by rw [hW3]; exact (Below.refl _ _).alloc (Nat.le_refl _) _
  have HBX3 : Hid (Box5 c W3) := Lib.hid (HBX2.out.but (But.ofBelow (rb := W2.heap.size) hb3 (Nat.le_refl _)) (Nat.ne_of_lt HBX2.out.lt))
  have b0 : W3.cell? ⟨d, 0, none⟩ = some (.int .i64 x0) := by rw [hW3]; exact (cell_top _ _ _ _ _ hd).trans rfl
  have b1 : W3.cell? ⟨d, 1, none⟩ = some (.string x1) := by rw [hW3]; exact (cell_top _ _ _ _ _ hd).trans rfl
  have b2 : W3.cell? ⟨d, 2, none⟩ = some (.string x2) := by rw [hW3]; exact (cell_top _ _ _ _ _ hd).trans rfl
  have b3 : W3.cell? ⟨d, 3, none⟩ = some (.int .i64 x3) := by rw [hW3]; exact (cell_top _ _ _ _ _ hd).trans rfl
  have b4 : W3.cell? ⟨d, 4, none⟩ = some (.slice xd xl xc) := by rw [hW3]; exact (cell_top _ _ _ _ _ hd).trans rfl
  have hdl : d < W3.heap.size := by rw [hW3, hd]; simp
  have HB3 : Hid (Below w.heap.size w W3) := Lib.hid (HB2.out.trans (hb3.mono HB2.out.size))
  have H23 := Lib.hid hb3
  rw [← hW3, ← hd]
  clear hW3 hd hb3
  have hq2 := HQ2.out
  cases hp : Ar.askR 61 s with
  | none =>
    rw [hp] at hq2
    obtain rfl : bv = false := hq2
    have HP : Hid (O = none) := Lib.hid (by rw [← HO.out]; unfold Ar.readR; rw [hp]; rfl)
    clear hp b0 b1 b2 b3 b4
    have r0 := HBX3.out.r0
    have r1 := HBX3.out.r1
    have r2 := HBX3.out.r2
    have r3 := HBX3.out.r3
    have r4 := HBX3.out.r4
    have q0 := HBX3.out.fz 0
    have q1 := HBX3.out.fz 1
    have q2 := HBX3.out.fz 2
    have q3 := HBX3.out.fz 3
    have q4 := HBX3.out.fz 4
    have hcl := HBX3.out.lt
    go_wp2_with fail
    refine bodyPost_ret (v := .tuple #[.agg #[.int .i64 0, .string ⟨#[]⟩, .string ⟨#[]⟩, .int .i64 0, .slice none 0 0], .bool false]) (by simp [results, Tryz.results47, go_sem, cell_set, r0, r1, r2, r3, r4, hcl]) rfl ?_
    show AskRrQ w _ _ (five W3 c (.int .i64 0) (.string ⟨#[]⟩) (.string ⟨#[]⟩) (.int .i64 0) (.slice none 0 0))
    rw [HP.out]
    exact ⟨five_below HB3.out c _ _ _ _ _ (Nat.le_of_eq HC.out.symm), rfl⟩
  | some p =>
    obtain ⟨x, r⟩ := p
    rw [hp] at hq2
    obtain ⟨rfl, htr, hv⟩ := hq2
    have hless := askR_less 61 s x r hp
    by_cases hr : r = []
    · subst hr
      have htl : t'.toList = [] := by rw [← htr, bts_toList]
      have htl2 : (t'.toList != []) = false := by rw [htl]; rfl
      have htl3 : (t'.toList == []) = true := by rw [htl]; rfl
      obtain ⟨f, hf⟩ : ∃ f, x.fault = f := ⟨_, rfl⟩
      have HF := Lib.hid hf
      have HRP : Hid (Ar.readR s = some x) := Lib.hid (by unfold Ar.readR; rw [hp])
      have HV := Lib.hid hv
      have HSZ : Hid (x.size ≤ 1000000000) := Lib.hid (by have := HSL.out; omega)
      have HV3 : Hid (AskV W3 x (.agg #[.int .i64 x0, .string x1, .string x2, .int .i64 x3, .slice xd xl xc])) := Lib.hid (AskV.below H23.out _ _ (AskVP.toV _ _ hv))
      have HTX := Lib.hid (AskFault_any x _ W3 HSZ.out HV3.out)
      rw [hf] at HTX
      clear hp hv hf htr hless
      go_wp2_with fail
      refine Calls.mono HTX.out ?_
      rintro e W4 ⟨rfl, hbn⟩
      have H34 := Lib.hid (hbn)
      replace b0 := (hbn.cell (p := ⟨d, 0, none⟩) hdl).trans b0
      replace b1 := (hbn.cell (p := ⟨d, 1, none⟩) hdl).trans b1
      replace b2 := (hbn.cell (p := ⟨d, 2, none⟩) hdl).trans b2
      replace b3 := (hbn.cell (p := ⟨d, 3, none⟩) hdl).trans b3
      replace b4 := (hbn.cell (p := ⟨d, 4, none⟩) hdl).trans b4
      have hdl4 : d < W4.heap.size := Nat.lt_of_lt_of_le hdl hbn.size
      have HB4 : Hid (Below w.heap.size w W4) := Lib.hid (HB3.out.trans (hbn.mono HB3.out.size))
      have HBX4 : Hid (Box5 c W4) := Lib.hid (HBX3.out.but (But.ofBelow (rb := W3.heap.size) hbn (Nat.le_refl _)) (Nat.ne_of_lt HBX3.out.lt))
      clear hbn
      by_cases h0 : f = 0
      · subst h0
        have hg := Ar.fault_good HF.out
        have HV4 : Hid (AskV W4 x (.agg #[.int .i64 x0, .string x1, .string x2, .int .i64 x3, .slice xd xl xc])) := Lib.hid (AskV.below H34.out _ _ HV3.out)
        have HER : Hid (x.err = 0) := Lib.hid (by have := HF.out; unfold Ask.fault at this; rw [if_neg (by have := hg.2; omega)] at this; exact this)
        have HTY := Lib.hid (refText_all x.size x _ W4 (Nat.le_refl _) hg.2 HER.out HV4.out)
        obtain ⟨T, hT⟩ : ∃ T, bts (Ar.txt x) = T := ⟨_, rfl⟩
        have HT := Lib.hid hT
        rw [hT] at HTY
        clear hg hT
        go_wp2_with fail
        refine Calls.mono HTY.out ?_
        rintro e W5 ⟨rfl, hbn⟩
        have H35 := Lib.hid (H34.out.trans (hbn.mono H34.out.size))
        replace b0 := (hbn.cell (p := ⟨d, 0, none⟩) hdl4).trans b0
        replace b1 := (hbn.cell (p := ⟨d, 1, none⟩) hdl4).trans b1
        replace b2 := (hbn.cell (p := ⟨d, 2, none⟩) hdl4).trans b2
        replace b3 := (hbn.cell (p := ⟨d, 3, none⟩) hdl4).trans b3
        replace b4 := (hbn.cell (p := ⟨d, 4, none⟩) hdl4).trans b4
        have hdl5 : d < W5.heap.size := Nat.lt_of_lt_of_le hdl4 hbn.size
        have HB5 : Hid (Below w.heap.size w W5) := Lib.hid (HB4.out.trans (hbn.mono HB4.out.size))
        have HBX5 : Hid (Box5 c W5) := Lib.hid (HBX4.out.but (But.ofBelow (rb := W4.heap.size) hbn (Nat.le_refl _)) (Nat.ne_of_lt HBX4.out.lt))
        clear hbn
        obtain ⟨tb, htb⟩ : ∃ b, (T.toList == S.toList) = b := ⟨_, rfl⟩
        have HTB : Hid (decide (Ar.txt x = s) = tb) := Lib.hid (by
          rw [← htb, ← HT.out, ← HS.out, bts_toList, bts_toList]
          by_cases h : Ar.txt x = s
          · rw [h]; simp
          · simp [h])
        have htb2 : (T.toList != S.toList) = !tb := by rw [bne, htb]
        cases tb with
        | false =>
          have HP : Hid (O = none) := Lib.hid (by
            rw [← HO.out, HRP.out]
            show (if x.fault = 0 ∧ Ar.txt x = s then some x else none) = none
            exact if_neg (fun h => of_decide_eq_false HTB.out h.2))
          clear b0 b1 b2 b3 b4
          have r0 := HBX5.out.r0
          have r1 := HBX5.out.r1
          have r2 := HBX5.out.r2
          have r3 := HBX5.out.r3
          have r4 := HBX5.out.r4
          have q0 := HBX5.out.fz 0
          have q1 := HBX5.out.fz 1
          have q2 := HBX5.out.fz 2
          have q3 := HBX5.out.fz 3
          have q4 := HBX5.out.fz 4
          have hcl := HBX5.out.lt
          go_wp2_with fail
          refine bodyPost_ret (v := .tuple #[.agg #[.int .i64 0, .string ⟨#[]⟩, .string ⟨#[]⟩, .int .i64 0, .slice none 0 0], .bool false]) (by simp [results, Tryz.results47, go_sem, cell_set, r0, r1, r2, r3, r4, hcl]) rfl ?_
          show AskRrQ w _ _ (five W5 c (.int .i64 0) (.string ⟨#[]⟩) (.string ⟨#[]⟩) (.int .i64 0) (.slice none 0 0))
          rw [HP.out]
          exact ⟨five_below HB5.out c _ _ _ _ _ (Nat.le_of_eq HC.out.symm), rfl⟩
        | true =>
          have HP : Hid (O = some x) := Lib.hid (by
            rw [← HO.out, HRP.out]
            show (if x.fault = 0 ∧ Ar.txt x = s then some x else none) = some x
            exact if_pos ⟨HF.out, of_decide_eq_true HTB.out⟩)
          have r0 := HBX5.out.r0
          have r1 := HBX5.out.r1
          have r2 := HBX5.out.r2
          have r3 := HBX5.out.r3
          have r4 := HBX5.out.r4
          have q0 := HBX5.out.fz 0
          have q1 := HBX5.out.fz 1
          have q2 := HBX5.out.fz 2
          have q3 := HBX5.out.fz 3
          have q4 := HBX5.out.fz 4
          have hcl := HBX5.out.lt
          go_wp2_with fail
          refine bodyPost_ret (v := .tuple #[.agg #[.int .i64 x0, .string x1, .string x2, .int .i64 x3, .slice xd xl xc], .bool true]) (by simp [results, Tryz.results47, go_sem, cell_set, r0, r1, r2, r3, r4, hcl]) rfl ?_
          show AskRrQ w _ _ (five W5 c (.int .i64 x0) (.string x1) (.string x2) (.int .i64 x3) (.slice xd xl xc))
          rw [HP.out]
          refine ⟨five_below HB5.out c _ _ _ _ _ (Nat.le_of_eq HC.out.symm), x0, x1, x2, x3, xd, xl, xc, rfl, ?_⟩
          have hcW0 : c < W0.heap.size := HBX0.out.lt
          have hs5 : W2.heap.size ≤ W5.heap.size := Nat.le_trans H23.out.size H35.out.size
          refine AskVP.stays (fun b h => Nat.le_trans HB0.out.size h) (by rw [five_size]; exact hs5) (fun b h hb => ?_) _ _ HV.out
          rw [five_heap _ _ _ _ _ _ _ b (by have : W0.heap.size ≤ b := h; omega), H35.out.block b (Nat.lt_of_lt_of_le hb H23.out.size), H23.out.block b hb]
      · have hz : (f == 0) = false := by simpa using h0
        have hz2 : (f != 0) = true := by simpa using h0
        have HP : Hid (O = none) := Lib.hid (by
          rw [← HO.out, HRP.out]
          show (if x.fault = 0 ∧ Ar.txt x = s then some x else none) = none
          exact if_neg (fun h => h0 (HF.out.symm.trans h.1)))
        clear b0 b1 b2 b3 b4
        have r0 := HBX4.out.r0
        have r1 := HBX4.out.r1
        have r2 := HBX4.out.r2
        have r3 := HBX4.out.r3
        have r4 := HBX4.out.r4
        have q0 := HBX4.out.fz 0
        have q1 := HBX4.out.fz 1
        have q2 := HBX4.out.fz 2
        have q3 := HBX4.out.fz 3
        have q4 := HBX4.out.fz 4
        have hcl := HBX4.out.lt
        go_wp2_with fail
        refine bodyPost_ret (v := .tuple #[.agg #[.int .i64 0, .string ⟨#[]⟩, .string ⟨#[]⟩, .int .i64 0, .slice none 0 0], .bool false]) (by simp [results, Tryz.results47, go_sem, cell_set, r0, r1, r2, r3, r4, hcl]) rfl ?_
        show AskRrQ w _ _ (five W4 c (.int .i64 0) (.string ⟨#[]⟩) (.string ⟨#[]⟩) (.int .i64 0) (.slice none 0 0))
        rw [HP.out]
        exact ⟨five_below HB4.out c _ _ _ _ _ (Nat.le_of_eq HC.out.symm), rfl⟩
    · have htl : ¬ t'.toList = [] := by rw [← htr, bts_toList]; exact hr
      have htl2 : (t'.toList != []) = true := by simpa using htl
      have HP : Hid (O = none) := Lib.hid (by
        rw [← HO.out]; unfold Ar.readR; rw [hp]
        cases r with
        | nil => exact absurd rfl hr
        | cons a b => rfl)
      clear hp hv hless b0 b1 b2 b3 b4
      have r0 := HBX3.out.r0
      have r1 := HBX3.out.r1
      have r2 := HBX3.out.r2
      have r3 := HBX3.out.r3
      have r4 := HBX3.out.r4
      have q0 := HBX3.out.fz 0
      have q1 := HBX3.out.fz 1
      have q2 := HBX3.out.fz 2
      have q3 := HBX3.out.fz 3
      have q4 := HBX3.out.fz 4
      have hcl := HBX3.out.lt
      go_wp2_with fail
      refine bodyPost_ret (v := .tuple #[.agg #[.int .i64 0, .string ⟨#[]⟩, .string ⟨#[]⟩, .int .i64 0, .slice none 0 0], .bool false]) (by simp [results, Tryz.results47, go_sem, cell_set, r0, r1, r2, r3, r4, hcl]) rfl ?_
      show AskRrQ w _ _ (five W3 c (.int .i64 0) (.string ⟨#[]⟩) (.string ⟨#[]⟩) (.int .i64 0) (.slice none 0 0))
      rw [HP.out]
      exact ⟨five_below HB3.out c _ _ _ _ _ (Nat.le_of_eq HC.out.symm), rfl⟩
end Go.Proofs.YtkemlckmfgacdaaGreatDoor
/- Contract: the program's Read of an ask. -/
namespace Go.Proofs.YtkemlckmfgacdaaGreatDoor
open Go.ChangeShapes Go.WideShapes Go.ChangeAt Go.RowKit
set_option linter.unusedVariables false
set_option linter.unusedSimpArgs false
open Tp
/-- what a reading of an ask tells -/
def AskRdQ (w : World) (o : Option Ask) (e : Ending) (w' : World) : Prop := Below w.heap.size w w' ∧ match o with
  | some x => ∃ (x0 : Int) (x1 x2 : ByteArray) (x3 : Int) (xd : Option Addr) (xl xc : Nat), e = .returned (.tuple #[.agg #[.int .i64 x0, .string x1, .string x2, .int .i64 x3, .slice xd xl xc], .int .i64 0]) ∧ AskVP (fun b => w.heap.size ≤ b) w' x (.agg #[.int .i64 x0, .string x1, .string x2, .int .i64 x3, .slice xd xl xc])
  | none => e = .returned (.tuple #[zero5, .int .i64 3])
set_option maxRecDepth 20000 in
set_option maxHeartbeats 16000000 in
theorem askRead_any (s : Bs) (w : World) (hs : s.length ≤ 2000) (he : Env w) : Calls Tryz.prog 34 #[.string (bts s)] w (AskRdQ w (Ar.own (Ar.readP s) s)) := by
  obtain ⟨S, hS⟩ : ∃ S, bts s = S := ⟨_, rfl⟩
  obtain ⟨n, hn⟩ : ∃ n, S.size = n := ⟨_, rfl⟩
  have hns : s.length = n := by rw [← hn, ← hS, bts_size]
  have hn2 : ¬ (2000 : Int) < (n : Int) := by omega
  have HS := Lib.hid hS
  obtain ⟨c, hc⟩ : ∃ c, c = w.heap.size := ⟨_, rfl⟩
  obtain ⟨W0, hW0⟩ : ∃ W, W = w.alloc (.cells #[.int .i64 0, .string ⟨#[]⟩, .string ⟨#[]⟩, .int .i64 0, .slice none 0 0] 26) := ⟨_, rfl⟩
  obtain ⟨rb, hrb⟩ : ∃ rb, rb = W0.heap.size := ⟨_, rfl⟩
  obtain ⟨W1, hW1⟩ : ∃ W, W = W0.alloc (.cells #[.string S, .int .i64 60] 110) := ⟨_, rfl⟩
  have hb0 : Below w.heap.size w W0 := by rw [hW0]; exact (Below.refl _ _).alloc (Nat.le_refl _) _
  have hb1 : Below w.heap.size w W1 := by rw [hW1]; exact hb0.alloc hb0.size _
  have HBX1 : Hid (Box5 c W1) := Lib.hid (by rw [hW1]; exact (by rw [hW0]; exact Box5.top hc : Box5 c W0).but ((But.refl W0.heap.size W0).alloc _) (by rw [hW0, hc]; simp))
  have HCR : Hid (c ≠ rb ∧ c = w.heap.size ∧ w.heap.size < rb) := Lib.hid (by rw [hrb, hW0, hc]; simp)
  have HR1 : Hid (RdrW rb s 60 W1) := Lib.hid ⟨by rw [hW1, hrb]; simp, by rw [hW1, hS]; exact (cell_top _ _ _ _ _ hrb).trans rfl, by rw [hW1]; exact (cell_top _ _ _ _ _ hrb).trans rfl, by rw [hW1]; exact frozen_top _ _ _ _ _ hrb, by rw [hW1]; exact frozen_top _ _ _ _ _ hrb⟩
  have HB1 := Lib.hid hb1
  have HEV : Hid (∀ W, But rb W1 W → Env W) := Lib.hid (fun W h => he.below (hb1.trans (h.below (Nat.le_of_lt HCR.out.2.2) hb1.size)) (Nat.le_refl _))
  have HA := Lib.hid (ask_all rb 60 60 s W1 (Nat.le_refl _) (Nat.le_refl _) hs HEV.out HR1.out)
  obtain ⟨O, hO⟩ : ∃ O, Ar.own (Ar.readP s) s = O := ⟨_, rfl⟩
  have HO := Lib.hid hO
  rw [hO, hS]
  clear hb0 hb1 hS hns hs he hO
  go_enter Tryz.func34, Tryz.ntmps34
  go_upto_region 1 with fail
  rw [← hW0, ← hc]
  clear hW0 hc
  go_upto_region 4 with fail
  rw [← hW1, ← hrb]
  clear hW1 hrb hn
  go_wp2_with fail
  refine Calls.mono HA.out ?_
  rintro e W2 hq
  obtain ⟨hb2, bv, x0, x1, x2, x3, xd, xl, xc, rfl, hq2⟩ := hq.form
  have HQ2 := Lib.hid hq2
  have HBX2 := Lib.hid (HBX1.out.but hb2 HCR.out.1)
  have HB2 : Hid (Below w.heap.size w W2) := Lib.hid (HB1.out.trans (hb2.below (Nat.le_of_lt HCR.out.2.2) HB1.out.size))
  have HE2 := Lib.hid (HEV.out W2 hb2)
  clear hb2 hq hq2
  go_upto_region 5 with fail
  obtain ⟨W3, hW3⟩ : ∃ W, W = W2.alloc (.cells #[.int .i64 x0, .string x1, .string x2, .int .i64 x3, .slice xd xl xc] 26) := ⟨_, rfl⟩
  obtain ⟨d, hd⟩ : ∃ d, d = W2.heap.size := ⟨_, rfl⟩
  have hb3 : Below W2.heap.size W2 W3 := by rw [hW3]; exact (Below.refl _ _).alloc (Nat.le_refl _) _
  have HBX3 : Hid (Box5 c W3) := Lib.hid (HBX2.out.but (But.ofBelow (rb := rb) hb3 (Nat.le_refl _)) HCR.out.1)
  have b0 : W3.cell? ⟨d, 0, none⟩ = some (.int .i64 x0) := by rw [hW3]; exact (cell_top _ _ _ _ _ hd).trans rfl
  have b1 : W3.cell? ⟨d, 1, none⟩ = some (.string x1) := by rw [hW3]; exact (cell_top _ _ _ _ _ hd).trans rfl
  have b2 : W3.cell? ⟨d, 2, none⟩ = some (.string x2) := by rw [hW3]; exact (cell_top _ _ _ _ _ hd).trans rfl
  have b3 : W3.cell? ⟨d, 3, none⟩ = some (.int .i64 x3) := by rw [hW3]; exact (cell_top _ _ _ _ _ hd).trans rfl
  have b4 : W3.cell? ⟨d, 4, none⟩ = some (.slice xd xl xc) := by rw [hW3]; exact (cell_top _ _ _ _ _ hd).trans rfl
  have hdl : d < W3.heap.size := by rw [hW3, hd]; simp
  have hdc : c < d := by rw [hd]; exact HBX2.out.lt
  have HB3 : Hid (Below w.heap.size w W3) := Lib.hid (HB2.out.trans (hb3.mono HB2.out.size))
  have HE3 := Lib.hid (HE2.out.below hb3 (Nat.le_refl _))
  have H23 := Lib.hid hb3
  rw [← hW3, ← hd]
  clear hW3 hd hb3
  have hq2 := HQ2.out
  cases hp : Ar.askP 60 60 s with
  | none =>
    rw [hp] at hq2
    obtain ⟨rfl, _, _, _, _⟩ := hq2
    have HP : Hid (O = none) := Lib.hid (by rw [← HO.out]; unfold Ar.readP; rw [hp]; rfl)
    clear hp b0 b1 b2 b3 b4
    have r0 := HBX3.out.r0
    have r1 := HBX3.out.r1
    have r2 := HBX3.out.r2
    have r3 := HBX3.out.r3
    have r4 := HBX3.out.r4
    have q0 := HBX3.out.fz 0
    have q1 := HBX3.out.fz 1
    have q2 := HBX3.out.fz 2
    have q3 := HBX3.out.fz 3
    have q4 := HBX3.out.fz 4
    have hcl := HBX3.out.lt
    go_wp2_with fail
    refine bodyPost_ret (v := .tuple #[.agg #[.int .i64 0, .string ⟨#[]⟩, .string ⟨#[]⟩, .int .i64 0, .slice none 0 0], .int .i64 3]) (by simp [results, Tryz.results34, go_sem, cell_set, r0, r1, r2, r3, r4, hcl]) rfl ?_
    show AskRdQ w _ _ (five W3 c (.int .i64 0) (.string ⟨#[]⟩) (.string ⟨#[]⟩) (.int .i64 0) (.slice none 0 0))
    rw [HP.out]
    exact ⟨five_below HB3.out c _ _ _ _ _ (Nat.le_of_eq HCR.out.2.1.symm), rfl⟩
  | some p =>
    obtain ⟨x, r, l⟩ := p
    rw [hp] at hq2
    obtain ⟨rfl, hv, _⟩ := hq2
    obtain ⟨f, hf⟩ : ∃ f, x.fault = f := ⟨_, rfl⟩
    obtain ⟨T, hT⟩ : ∃ T, askTxtOf x = T := ⟨_, rfl⟩
    have HF := Lib.hid hf
    have HT := Lib.hid hT
    have HRP : Hid (Ar.readP s = some x) := Lib.hid (by unfold Ar.readP; rw [hp]; rfl)
    have HV := Lib.hid hv
    have HSZ : Hid (x.size ≤ 1000000000) := Lib.hid (by have := (Ar.askP_less 60 60 s x r l hp).2.2; omega)
    have HV3 : Hid (AskV W3 x (.agg #[.int .i64 x0, .string x1, .string x2, .int .i64 x3, .slice xd xl xc])) := Lib.hid (AskV.below H23.out _ _ (AskVP.toV _ _ hv))
    have HTX := Lib.hid (askText_any x _ W3 HSZ.out HE3.out HV3.out)
    rw [hf, hT] at HTX
    clear hp hv hf hT
    go_wp2_with fail
    refine Calls.mono HTX.out ?_
    rintro e W4 ⟨rfl, hb4⟩
    have H34 := Lib.hid hb4
    replace b0 := (hb4.cell (p := ⟨d, 0, none⟩) hdl).trans b0
    replace b1 := (hb4.cell (p := ⟨d, 1, none⟩) hdl).trans b1
    replace b2 := (hb4.cell (p := ⟨d, 2, none⟩) hdl).trans b2
    replace b3 := (hb4.cell (p := ⟨d, 3, none⟩) hdl).trans b3
    replace b4 := (hb4.cell (p := ⟨d, 4, none⟩) hdl).trans b4
    have HB4 : Hid (Below w.heap.size w W4) := Lib.hid (HB3.out.trans (hb4.mono HB3.out.size))
    have HBX4 : Hid (Box5 c W4) := Lib.hid (HBX3.out.but (But.ofBelow (rb := rb) hb4 (Nat.le_refl _)) HCR.out.1)
    clear hb4
    by_cases h0 : f = 0
    · subst h0
      obtain ⟨tb, htb⟩ : ∃ b, (T.toList == S.toList) = b := ⟨_, rfl⟩
      have HTB : Hid (decide (Ar.txt x = s) = tb) := Lib.hid (by
        rw [← htb, ← HT.out, ← HS.out]; unfold askTxtOf; rw [if_pos HF.out, bts_toList, bts_toList]
        by_cases h : Ar.txt x = s
        · rw [h]; simp
        · simp [h])
      cases tb with
      | false =>
        have HP : Hid (O = none) := Lib.hid (by
          rw [← HO.out, HRP.out]
          show (if x.fault = 0 ∧ Ar.txt x = s then some x else none) = none
          exact if_neg (fun h => of_decide_eq_false HTB.out h.2))
        clear b0 b1 b2 b3 b4
        have r0 := HBX4.out.r0
        have r1 := HBX4.out.r1
        have r2 := HBX4.out.r2
        have r3 := HBX4.out.r3
        have r4 := HBX4.out.r4
        have q0 := HBX4.out.fz 0
        have q1 := HBX4.out.fz 1
        have q2 := HBX4.out.fz 2
        have q3 := HBX4.out.fz 3
        have q4 := HBX4.out.fz 4
        have hcl := HBX4.out.lt
        go_wp2_with fail
        refine bodyPost_ret (v := .tuple #[.agg #[.int .i64 0, .string ⟨#[]⟩, .string ⟨#[]⟩, .int .i64 0, .slice none 0 0], .int .i64 3]) (by simp [results, Tryz.results34, go_sem, cell_set, r0, r1, r2, r3, r4, hcl]) rfl ?_
        show AskRdQ w _ _ (five W4 c (.int .i64 0) (.string ⟨#[]⟩) (.string ⟨#[]⟩) (.int .i64 0) (.slice none 0 0))
        rw [HP.out]
        exact ⟨five_below HB4.out c _ _ _ _ _ (Nat.le_of_eq HCR.out.2.1.symm), rfl⟩
      | true =>
        have HP : Hid (O = some x) := Lib.hid (by
          rw [← HO.out, HRP.out]
          show (if x.fault = 0 ∧ Ar.txt x = s then some x else none) = some x
          exact if_pos ⟨HF.out, of_decide_eq_true HTB.out⟩)
        have r0 := HBX4.out.r0
        have r1 := HBX4.out.r1
        have r2 := HBX4.out.r2
        have r3 := HBX4.out.r3
        have r4 := HBX4.out.r4
        have q0 := HBX4.out.fz 0
        have q1 := HBX4.out.fz 1
        have q2 := HBX4.out.fz 2
        have q3 := HBX4.out.fz 3
        have q4 := HBX4.out.fz 4
        have hcl := HBX4.out.lt
        go_wp2_with fail
        refine bodyPost_ret (v := .tuple #[.agg #[.int .i64 x0, .string x1, .string x2, .int .i64 x3, .slice xd xl xc], .int .i64 0]) (by simp [results, Tryz.results34, go_sem, cell_set, r0, r1, r2, r3, r4, hcl]) rfl ?_
        show AskRdQ w _ _ (five W4 c (.int .i64 x0) (.string x1) (.string x2) (.int .i64 x3) (.slice xd xl xc))
        rw [HP.out]
        refine ⟨five_below HB4.out c _ _ _ _ _ (Nat.le_of_eq HCR.out.2.1.symm), x0, x1, x2, x3, xd, xl, xc, rfl, ?_⟩
        have hcW1 : c < W1.heap.size := HBX1.out.lt
        have hs4 : W2.heap.size ≤ W4.heap.size := Nat.le_trans H23.out.size H34.out.size
        refine AskVP.stays (fun b h => Nat.le_trans HB1.out.size h) (by rw [five_size]; exact hs4) (fun b h hb => ?_) _ _ HV.out
        rw [five_heap _ _ _ _ _ _ _ b (by have : W1.heap.size ≤ b := h; omega), H34.out.block b (Nat.lt_of_lt_of_le hb H23.out.size), H23.out.block b hb]
    · have hz : (f == 0) = false := by simpa using h0
      have HP : Hid (O = none) := Lib.hid (by
        rw [← HO.out, HRP.out]
        show (if x.fault = 0 ∧ Ar.txt x = s then some x else none) = none
        exact if_neg (fun h => h0 (HF.out.symm.trans h.1)))
      clear b0 b1 b2 b3 b4
      have r0 := HBX4.out.r0
      have r1 := HBX4.out.r1
      have r2 := HBX4.out.r2
      have r3 := HBX4.out.r3
      have r4 := HBX4.out.r4
      have q0 := HBX4.out.fz 0
      have q1 := HBX4.out.fz 1
      have q2 := HBX4.out.fz 2
      have q3 := HBX4.out.fz 3
      have q4 := HBX4.out.fz 4
      have hcl := HBX4.out.lt
      go_wp2_with fail
      refine bodyPost_ret (v := .tuple #[.agg #[.int .i64 0, .string ⟨#[]⟩, .string ⟨#[]⟩, .int .i64 0, .slice none 0 0], .int .i64 3]) (by simp [results, Tryz.results34, go_sem, cell_set, r0, r1, r2, r3, r4, hcl]) rfl ?_
      show AskRdQ w _ _ (five W4 c (.int .i64 0) (.string ⟨#[]⟩) (.string ⟨#[]⟩) (.int .i64 0) (.slice none 0 0))
      rw [HP.out]
      exact ⟨five_below HB4.out c _ _ _ _ _ (Nat.le_of_eq HCR.out.2.1.symm), rfl⟩
set_option maxRecDepth 20000 in
set_option maxHeartbeats 4000000 in
theorem askRead_long (S : ByteArray) (w : World) (hs : 2000 < S.size) : Calls Tryz.prog 34 #[.string S] w fun e w' => e = .returned (.tuple #[zero5, .int .i64 2]) ∧ Below w.heap.size w w' := by
  obtain ⟨n, hn⟩ : ∃ n, S.size = n := ⟨_, rfl⟩
  have hn2 : (2000 : Int) < (n : Int) := by omega
  obtain ⟨c, hc⟩ : ∃ c, c = w.heap.size := ⟨_, rfl⟩
  obtain ⟨W0, hW0⟩ : ∃ W, W = w.alloc (.cells #[.int .i64 0, .string ⟨#[]⟩, .string ⟨#[]⟩, .int .i64 0, .slice none 0 0] 26) := ⟨_, rfl⟩
  have HB0 : Hid (Below w.heap.size w W0) := Lib.hid (by rw [hW0]; exact (Below.refl _ _).alloc (Nat.le_refl _) _)
  have HBX : Hid (Box5 c W0) := Lib.hid (by rw [hW0]; exact Box5.top hc)
  have HC : Hid (w.heap.size ≤ c) := Lib.hid (Nat.le_of_eq hc.symm)
  clear hs
  go_enter Tryz.func34, Tryz.ntmps34
  go_upto_region 1 with fail
  rw [← hW0, ← hc]
  clear hW0 hc
  have r0 := HBX.out.r0
  have r1 := HBX.out.r1
  have r2 := HBX.out.r2
  have r3 := HBX.out.r3
  have r4 := HBX.out.r4
  have q0 := HBX.out.fz 0
  have q1 := HBX.out.fz 1
  have q2 := HBX.out.fz 2
  have q3 := HBX.out.fz 3
  have q4 := HBX.out.fz 4
  have hcl := HBX.out.lt
  go_wp2_with fail
  refine bodyPost_ret (v := .tuple #[.agg #[.int .i64 0, .string ⟨#[]⟩, .string ⟨#[]⟩, .int .i64 0, .slice none 0 0], .int .i64 2]) (by simp [results, Tryz.results34, go_sem, cell_set, r0, r1, r2, r3, r4, hcl]) rfl ?_
  show _ ∧ Below w.heap.size w (five W0 c (.int .i64 0) (.string ⟨#[]⟩) (.string ⟨#[]⟩) (.int .i64 0) (.slice none 0 0))
  exact ⟨rfl, five_below HB0.out c _ _ _ _ _ HC.out⟩
end Go.Proofs.YtkemlckmfgacdaaGreatDoor
/- What readings of an ask tell, in one form. -/
namespace Go.Proofs.YtkemlckmfgacdaaGreatDoor
open Go.ChangeShapes Go.WideShapes Go.ChangeAt Go.RowKit
set_option linter.unusedVariables false
set_option linter.unusedSimpArgs false
open Tp
/-- an ask that is nothing -/
def zA : Ask := .mk 0 [] [] 0 []
theorem zA_vp {p : Nat → Prop} (w : World) : AskVP p w zA zero5 := leaf_vp 0 [] [] 0 (by simp) (by simp)
theorem zA_v (w : World) : AskV w zA zero5 := AskVP.toV (p := fun _ => True) _ _ (leaf_vp 0 [] [] 0 (by simp) (by simp))
theorem AskRdQ.form {w w' : World} {O : Option Ask} {e : Ending} (h : AskRdQ w O e w') : Below w.heap.size w w' ∧ ∃ (y0 : Int) (y1 y2 : ByteArray) (y3 : Int) (yd : Option Addr) (yl yc : Nat) (ec : Int), e = .returned (.tuple #[.agg #[.int .i64 y0, .string y1, .string y2, .int .i64 y3, .slice yd yl yc], .int .i64 ec]) ∧ (ec = if O.isSome then 0 else 3) ∧ AskVP (fun b => w.heap.size ≤ b) w' (O.getD zA) (.agg #[.int .i64 y0, .string y1, .string y2, .int .i64 y3, .slice yd yl yc]) := by
  obtain ⟨hb, h⟩ := h
  cases O with
  | none => exact ⟨hb, _, _, _, _, _, _, _, 3, h, rfl, zA_vp w'⟩
  | some x =>
    obtain ⟨x0, x1, x2, x3, xd, xl, xc, h1, h2⟩ := h
    exact ⟨hb, _, _, _, _, _, _, _, 0, h1, rfl, h2⟩
theorem AskRrQ.form {w w' : World} {O : Option Ask} {e : Ending} (h : AskRrQ w O e w') : Below w.heap.size w w' ∧ ∃ (z0 : Int) (z1 z2 : ByteArray) (z3 : Int) (zd : Option Addr) (zl zc : Nat), e = .returned (.tuple #[.agg #[.int .i64 z0, .string z1, .string z2, .int .i64 z3, .slice zd zl zc], .bool O.isSome]) ∧ AskVP (fun b => w.heap.size ≤ b) w' (O.getD zA) (.agg #[.int .i64 z0, .string z1, .string z2, .int .i64 z3, .slice zd zl zc]) := by
  obtain ⟨hb, h⟩ := h
  cases O with
  | none => exact ⟨hb, _, _, _, _, _, _, _, h, zA_vp w'⟩
  | some x =>
    obtain ⟨x0, x1, x2, x3, xd, xl, xc, h1, h2⟩ := h
    exact ⟨hb, _, _, _, _, _, _, _, h1, h2⟩
/-- what the law's reading tells, long texts too -/
theorem read_law (s : Bs) (w : World) (he : Env w) : Calls Tryz.prog 34 #[.string (bts s)] w fun e w' => Below w.heap.size w w' ∧ ∃ (y0 : Int) (y1 y2 : ByteArray) (y3 : Int) (yd : Option Addr) (yl yc : Nat) (ec : Int), e = .returned (.tuple #[.agg #[.int .i64 y0, .string y1, .string y2, .int .i64 y3, .slice yd yl yc], .int .i64 ec]) ∧ ((2000 < s.length ∧ ec = 2 ∧ AskVP (fun b => w.heap.size ≤ b) w' zA (.agg #[.int .i64 y0, .string y1, .string y2, .int .i64 y3, .slice yd yl yc])) ∨ (s.length ≤ 2000 ∧ (ec = if (Ar.own (Ar.readR s) s).isSome then 0 else 3) ∧ AskVP (fun b => w.heap.size ≤ b) w' ((Ar.own (Ar.readR s) s).getD zA) (.agg #[.int .i64 y0, .string y1, .string y2, .int .i64 y3, .slice yd yl yc]))) := by
  by_cases h : 2000 < s.length
  · refine Calls.mono (askRead_long (bts s) w (by rw [bts_size]; exact h)) ?_
    rintro e w' ⟨he, hb⟩
    exact ⟨hb, _, _, _, _, _, _, _, 2, he, .inl ⟨h, rfl, zA_vp w'⟩⟩
  · refine Calls.mono (askRead_any s w (by omega) he) ?_
    intro e w' hq
    rw [Ar.own_same s] at hq
    obtain ⟨hb, y0, y1, y2, y3, yd, yl, yc, ec, h1, h2, h3⟩ := hq.form
    exact ⟨hb, y0, y1, y2, y3, yd, yl, yc, ec, h1, .inr ⟨by omega, h2, h3⟩⟩
end Go.Proofs.YtkemlckmfgacdaaGreatDoor
/- Contract: the document's Pieces: the pieces of a text between a sign. -/
namespace Go.Proofs.YtkemlckmfgacdaaGreatDoor
open Go.ChangeShapes Go.WideShapes Go.ChangeAt Go.RowKit
set_option linter.unusedVariables false
open Tp Nt
theorem pcs_snoc (c : UInt8) : ∀ t : Bs, ∃ (D : List Bs) (l : Bs), pcs c t = D ++ [l] ∧ l.length ≤ t.length ∧ D.length ≤ t.length ∧ ∀ x, pcs c (t ++ [x]) = if x = c then D ++ [l] ++ [[]] else D ++ [l ++ [x]]
  | [] => ⟨[], [], rfl, Nat.le_refl _, Nat.le_refl _, fun x => by
    show pcs c [x] = _
    rw [pcs]
    split <;> rfl⟩
  | y :: t => by
    obtain ⟨D, l, h1, h2, h4, h3⟩ := pcs_snoc c t
    by_cases hy : y = c
    · refine ⟨[] :: D, l, by rw [pcs, if_pos hy, h1]; rfl, by simp; omega, by simp; omega, fun x => ?_⟩
      rw [List.cons_append, pcs, if_pos hy, h3]
      split <;> rfl
    · cases D with
      | nil =>
        refine ⟨[], y :: l, by rw [pcs, if_neg hy, h1]; rfl, by simp; omega, by simp, fun x => ?_⟩
        rw [List.cons_append, pcs, if_neg hy, h3]
        by_cases hx : x = c
        · rw [if_pos hx, if_pos hx]; rfl
        · rw [if_neg hx, if_neg hx]; rfl
      | cons d D =>
        refine ⟨(y :: d) :: D, l, by rw [pcs, if_neg hy, h1]; rfl, by simp; omega, by simp at h4 ⊢; omega, fun x => ?_⟩
        rw [List.cons_append, pcs, if_neg hy, h3]
        by_cases hx : x = c
        · rw [if_pos hx, if_pos hx]; rfl
        · rw [if_neg hx, if_neg hx]; rfl
/-- the row so far -/
structure PcsW (B : Nat) (c : UInt8) (t : Bs) (x : Value) (w wr : World) : Prop where
  own : wr.ownsRow B 9 1 x (pcs c t).length (txv (pcs c t))
  below : Below B w wr
def PiecesQ (w : World) (c : UInt8) (s : Bs) (e : Ending) (w' : World) : Prop := ∃ v, e = .returned v ∧ w'.ownsRow w.heap.size 9 1 v (pcs c s).length (txv (pcs c s)) ∧ Below w.heap.size w w'
set_option maxRecDepth 20000 in
set_option maxHeartbeats 8000000 in
theorem Pieces_any (s : Bs) (c : UInt8) (w : World) (hs : s.length ≤ 1099511627776) : Calls Tryz.prog 44 #[.string (bts s), .int .u8 (c.toNat : Int)] w fun e w' => PiecesQ w c s e w' := by
  obtain ⟨S, hS⟩ : ∃ S, bts s = S := ⟨_, rfl⟩
  obtain ⟨n, hn⟩ : ∃ n, s.length = n := ⟨_, rfl⟩
  have hsz : S.size = n := by rw [← hS, bts_size, hn]
  have HS := Lib.hid hS
  have HN := Lib.hid hn
  rw [hn] at hs
  rw [hS]
  obtain ⟨B, hB⟩ : ∃ B, w.heap.size = B := ⟨_, rfl⟩
  have HB := Lib.hid hB
  have h0 : Hid (PcsW B c (s.take 0) (.slice (some ⟨B, 0, none⟩) 1 1) w (w.alloc (.cells #[.string ⟨#[]⟩] 9))) := Lib.hid (by
    refine ⟨?_, by rw [← hB]; exact (Below.refl _ _).alloc (Nat.le_refl _) _⟩
    have := World.ownsRow_lit (base := B) (e := 9) (size := 1) w #[.string ⟨#[]⟩] 1 (Nat.le_of_eq hB.symm) (by decide) rfl
    rw [hB] at this
    exact this)
  clear hS hn
  unfold PiecesQ
  rw [hB]
  go_enter Tryz.func44, Tryz.ntmps44
  go_upto_block 0 with fail
  clear hB
  go_wp2_with fail
  go_loopg [5, 10] n (fun g x y wr => ∃ (j : Nat), j + g = n ∧ y = .int .i64 (j : Int) ∧ Hid (PcsW B c (s.take j) x w wr))
  case atStart => exact ⟨0, by omega, rfl, h0⟩
  case round =>
    obtain ⟨j, hj, rfl, HW⟩ := hrel
    have HJ := Lib.hid hj
    by_cases hjn : j < n
    · obtain ⟨x, hx⟩ : ∃ x, s[j]? = some x := ⟨_, List.getElem?_eq_getElem (by rw [HN.out]; exact hjn)⟩
      have hxs : (lst S)[j]? = some x := by rw [← HS.out, lst_bts]; exact hx
      have hjs : j < S.size := by omega
      have hc1 : S[j]'hjs = x := lst_at hxs hjs
      have HT := Lib.hid (take_snoc hx)
      obtain ⟨D, l, e1, e2, e4, e3⟩ := pcs_snoc c (s.take j)
      have hj1 : (0 : Int) ≤ (j : Int) := by omega
      have hj2 : (j : Int) < (n : Int) := by omega
      have HE1 := Lib.hid e1
      have HE3 := Lib.hid (e3 x)
      have hlj : l.length ≤ j := by rw [List.length_take] at e2; omega
      have hDj : D.length ≤ j := by rw [List.length_take] at e4; omega
      have hown := HW.out.own
      rw [HE1.out] at hown
      obtain ⟨K, hK⟩ : ∃ K, D ++ [l] = K := ⟨_, rfl⟩
      obtain ⟨m, hm⟩ : ∃ m, K.length = m := ⟨_, rfl⟩
      have hmD : m = D.length + 1 := by rw [← hm, ← hK]; simp
      rw [hK, hm] at hown
      obtain ⟨a4, cp4, hv, hcp, hcp2, hO9⟩ := ownForm hown
      obtain ⟨g, rfl⟩ := hO9 (by omega)
      subst hv
      have HKE := Lib.hid hK
      have HM := Lib.hid hm
      have HOWN := Lib.hid hown
      have HBEL := Lib.hid HW.out.below
      have hmm : m ≤ n + 1 := by omega
      have HMD := Lib.hid hmD
      have hBw : B ≤ wr.heap.size := by have := HBEL.out.size; have := HB.out; omega
      by_cases hxc : x = c
      · have hcmp : ((x.toNat : Int) == (c.toNat : Int)) = true := by rw [hxc]; simp
        have HNEW : Hid (pcs c (s.take (j + 1)) = K ++ [[]]) := Lib.hid (by rw [HT.out, HE3.out, if_pos hxc, HKE.out])
        clear hx hxs e1 e3 hK hm hmD hown hO9 hxc hj
        go_upto_region 6 with fail
        go_wp2_with (at_builtin; go_loud (refine wpList_push wr (by rfl) _ _ 60 (by rfl) B 9 (.string ⟨#[]⟩) 16 Tryz.underlying60 infoStr (by rfl) (.slice (some ⟨g, 0, none⟩) m cp4) m (txv K) (.string ⟨#[]⟩) _ rfl (by rfl) HOWN.out (by rfl) (by rfl) (by unfold maxLen; omega) (by omega) hBw ?_; intro gg cap3 w5 hown5 hgrow hgb hgl; have HW5 : Hid (PcsW B c (s.take (j + 1)) (.slice (some ⟨gg, 0, none⟩) (m + 1) cap3) w w5) := Lib.hid (by refine ⟨?_, HBEL.out.grown hgrow hBw (ownBlock_ge HOWN.out (Nat.le_refl _))⟩; rw [HNEW.out, txv_push, List.length_append, HM.out]; exact hown5); clear hown5 hgrow hgb hgl))
        go_roundg (n - (j + 1))
        case measure => (have := HJ.out; omega)
        case rel => exact ⟨j + 1, by have := HJ.out; omega, by simp, HW5⟩
      · have hcmp : ((x.toNat : Int) == (c.toNat : Int)) = false := by
          simp only [beq_eq_false_iff_ne]
          intro e
          exact hxc (UInt8.toNat_inj.1 (by omega))
        have HNEW : Hid (pcs c (s.take (j + 1)) = K.set D.length (l ++ [x])) := Lib.hid (by rw [HT.out, HE3.out, if_neg hxc, ← HKE.out]; simp)
        obtain ⟨d, hd⟩ : ∃ d, D.length = d := ⟨_, rfl⟩
        rw [hd] at HNEW HMD
        obtain ⟨L, hL⟩ : ∃ L, bts l = L := ⟨_, rfl⟩
        obtain ⟨X, hX⟩ : ∃ L, bts [x] = L := ⟨_, rfl⟩
        have HLX : Hid (L ++ X = bts (l ++ [x])) := Lib.hid (by rw [← hL, ← hX, bts_append])
        have hLs : L.size = l.length := by rw [← hL, bts_size]
        have hXs : X.size = 1 := by rw [← hX, bts_size]; rfl
        have hext : S.extract j (j + 1) = X := by
          rw [← hX]
          apply ByteArray.ext
          apply Array.toList_inj.1
          show (S.extract j (j + 1)).data.toList = [x]
          have e : (S.extract j (j + 1)).data.toList = ((lst S).drop j).take 1 := by
            show (S.extract j (j + 1)).data.toList = (S.data.toList.drop j).take 1
            simp [ByteArray.data_extract, Array.toList_extract]
          rw [e, drop_some hxs]
          rfl
        have hcell : wr.cell? ⟨g, d, none⟩ = some (.string L) := by
          rw [HOWN.out.cellAt d (by rw [HMD.out]; omega), ← hL]
          exact txv_at (by rw [← HKE.out, ← hd]; simp)
        have hfrz := HOWN.out.frozenAt d
        have hlt := (HOWN.out.lt g rfl).2
        have hglo := (HOWN.out.lt g rfl).1
        have hst := HOWN.out.stored d (.string (L ++ X))
        have HW5 : Hid (∀ q, PcsW B c (s.take (j + 1)) (.slice (some ⟨g, 0, none⟩) m cp4) w ((wr.setCell ⟨g, d, none⟩ (.string (L ++ X))).drewN q)) := Lib.hid (fun q => by
          refine ⟨ownsRow_below ?_ ((Drawn.drewN _ _).below _), (HBEL.out.setCell (p := ⟨g, d, none⟩) hglo _).trans ((Drawn.drewN _ _).below _)⟩
          rw [HNEW.out, List.length_set, HM.out, show txv (K.set d (l ++ [x])) = (txv K).set d (.string (L ++ X)) from by rw [HLX.out]; simp [txv, List.map_set]]
          exact hst.1)
        have hdm : ((m : Int) - 1) = (d : Int) := by have := HMD.out; omega
        have hd1 : (0 : Int) ≤ (d : Int) := by omega
        have hd2 : (d : Int) < (m : Int) := by have := HMD.out; omega
        have hw1 : IntKind.i64.wrap (d : Int) = (d : Int) := IntWalk.i64_in _ (by omega)
        have hw2 : IntKind.i64.wrap ((j : Int) + 1) = (j : Int) + 1 := IntWalk.i64_in _ (by omega)
        clear hx hxs e1 e3 hK hm hmD hown hO9 hxc hj hst hd hL hX
        have hs2 : (j : Int) ≤ (j : Int) + 1 := by omega
        have hs3 : (j : Int) + 1 ≤ (n : Int) := by omega
        have hs4 : ¬ ((j : Int) + 1 < (j : Int)) := by omega
        have hs5 : ¬ ((n : Int) < (j : Int) + 1) := by omega
        have hadd : ¬ 9223372036854775807 < L.size + 1 := by rw [hLs]; omega
        have hadd2 : L.size + 1 ≤ 9223372036854775807 := by omega
        have hadd3 : L.size ≤ 9223372036854775806 := by omega
        clear hLs
        go_upto_region 7 with fail
        go_still_tail 13, (by kernel_rfl)
        go_wp2_with fail
        go_roundg (n - (j + 1))
        case measure => (have := HJ.out; omega)
        case rel => exact ⟨j + 1, by have := HJ.out; omega, by simp, HW5.out 1⟩
    · obtain rfl : j = n := by omega
      go_wp2_with fail
      go_ret
      have h9 := HW.out
      rw [← HN.out, List.take_length] at h9
      exact ⟨_, rfl, h9.own, h9.below⟩
end Go.Proofs.YtkemlckmfgacdaaGreatDoor
/- Contract: the document's reading of an amount. -/
namespace Go.Proofs.YtkemlckmfgacdaaGreatDoor
open Go.ChangeShapes Go.WideShapes Go.ChangeAt Go.RowKit
set_option linter.unusedVariables false
set_option linter.unusedSimpArgs false
open Tp Nt
set_option maxRecDepth 20000 in
set_option maxHeartbeats 16000000 in
theorem NeedRead_any (s : Bs) (w : World) (hs : s.length ≤ 1099511627776) : Calls Tryz.prog 46 #[.string (bts s)] w fun e w' => e = .returned (rdVal (own (readR s) s)) ∧ Below w.heap.size w w' := by
  obtain ⟨S, hS⟩ : ∃ S, bts s = S := ⟨_, rfl⟩
  have HS := Lib.hid hS
  obtain ⟨Z, hZ⟩ : ∃ Z, rdVal (own (readR s) s) = Z := ⟨_, rfl⟩
  have HZ := Lib.hid hZ
  have HSL := Lib.hid hs
  have HP := Lib.hid (Pieces_any s 44)
  obtain ⟨B, hB⟩ : ∃ B, w.heap.size = B := ⟨_, rfl⟩
  have HB := Lib.hid hB
  rw [hS] at HP ⊢
  rw [hZ]
  obtain ⟨W0, hW0⟩ : ∃ W, W = (w.alloc (.cells #[.int .i64 0, .int .i64 0, .int .i64 0] 23)).alloc (.cells #[.int .i64 0, .int .i64 0, .int .i64 0] 112) := ⟨_, rfl⟩
  have HR0 : Hid (RdW B (0, 0, 0) w W0) := Lib.hid (by rw [hW0]; exact RdW.start hB)
  clear hs hS hZ
  go_enter Tryz.func46, Tryz.ntmps46
  go_upto_region 2 with fail
  rw [← hW0]
  clear hW0 hB
  obtain ⟨b45, hb45⟩ : ∃ b, (S.toList == [45]) = b := ⟨_, rfl⟩
  have HB45 : Hid (b45 = decide (s = [45])) := Lib.hid (by
    rw [← hb45, ← HS.out, bts_toList]
    by_cases h : s = [45]
    · rw [h]; rfl
    · rw [decide_eq_false h]; simpa using h)
  go_upto_if 15 with fail
  clear hb45
  go_cut [] (fun W => ∃ v, Hid (readR s = some v) ∧ Hid (RdW B v w W))
  case first =>
    by_cases h45 : s = [45]
    · obtain rfl : b45 = true := HB45.out.trans (decide_eq_true h45)
      have HV : Hid (readR s = some (0, 0, 0)) := Lib.hid (by unfold readR; rw [if_pos h45])
      clear h45
      go_wp2_with fail
      go_meet
      exact ⟨_, HV, HR0⟩
    · obtain rfl : b45 = false := HB45.out.trans (decide_eq_false h45)
      have HRD : Hid (readR s = foldO stepR (0, 0, 0) (pcs 44 s)) := Lib.hid (by unfold readR; rw [if_neg h45])
      clear h45
      go_wp2_with fail
      refine Calls.mono (HP.out W0 HSL.out) ?_
      rintro e w1 ⟨v1, rfl, hown, hb⟩
      have hne := pcs_ne 44 s
      obtain ⟨P, hP⟩ : ∃ P, pcs 44 s = P := ⟨_, rfl⟩
      rw [hP] at HRD hown hne
      obtain ⟨a1, cp1, rfl, hc1, hc2, hg1⟩ := ownForm hown
      obtain ⟨g, rfl⟩ := hg1 (List.length_pos_iff.2 hne)
      have hgB := (hown.lt g rfl).1
      have hszr := HR0.out.sz
      have HRW : Hid (RowAt g P w1) := Lib.hid (RowAt.own hown)
      have HR1 : Hid (RdW B (0, 0, 0) w w1) := Lib.hid (HR0.out.step hb hszr)
      have HLN : Hid (∀ (i : Nat) (t : Bs), P[i]? = some t → t.length ≤ 1099511627776) := Lib.hid (by
        intro i t ht
        have := pcs_len 44 s t (by rw [hP]; exact List.mem_of_getElem? ht)
        have := HSL.out
        omega)
      obtain ⟨m, hm⟩ : ∃ m, P.length = m := ⟨_, rfl⟩
      have hmI : (m : Int) ≤ 1099511627777 := by
        have := pcs_cnt 44 s
        have := HSL.out
        rw [hP, hm] at *
        omega
      have HM := Lib.hid hm
      have HGB : Hid (B + 2 ≤ g) := Lib.hid (by omega)
      rw [hm]
      clear hP hown hne hc1 hc2 hg1 hgB hszr hb hm
      go_wp2_with fail
      go_loopg [19] m (fun gh y wr => ∃ (j : Nat) (v : V3), j + gh = m ∧ y = .int .i64 (j : Int) ∧ Hid (foldO stepR (0, 0, 0) (P.take j) = some v) ∧ Hid (RdW B v w wr) ∧ Hid (RowAt g P wr))
      case atStart => exact ⟨0, (0, 0, 0), by omega, rfl, Lib.hid rfl, HR1, HRW⟩
      case round =>
        obtain ⟨j, v, hj, rfl, HF, HRD1, HRW1⟩ := hrel
        have HJ := Lib.hid hj
        by_cases hjm : j < m
        · obtain ⟨x, hx⟩ : ∃ x, P[j]? = some x := ⟨_, List.getElem?_eq_getElem (by rw [HM.out]; exact hjm)⟩
          have HX := Lib.hid hx
          have hxl : x.length ≤ 1099511627776 := HLN.out j x hx
          obtain ⟨X, hX⟩ : ∃ X, bts x = X := ⟨_, rfl⟩
          have d1 := HRW1.out.at' j x hx
          rw [hX] at d1
          have hj1 : (0 : Int) ≤ (j : Int) := by omega
          have hj2 : (j : Int) < (m : Int) := by omega
          obtain ⟨xl, hxn⟩ : ∃ n, X.size = n := ⟨_, rfl⟩
          have hxx : x.length = xl := by rw [← hxn, ← hX, bts_size]
          obtain ⟨q, hq⟩ : ∃ q, wr.heap.size = q := ⟨_, rfl⟩
          obtain ⟨W2, hW2⟩ : ∃ W, W = wr.alloc (.cells #[.string ⟨#[99, 112, 117, 61]⟩, .string ⟨#[109, 101, 109, 61]⟩, .string ⟨#[103, 112, 117, 61]⟩] 9) := ⟨_, rfl⟩
          have hb2 : Below wr.heap.size wr W2 := by rw [hW2]; exact (Below.refl _ _).alloc (Nat.le_refl _) _
          have HRD2 : Hid (RdW B v w W2) := Lib.hid (HRD1.out.step hb2 HRD1.out.sz)
          have HRW2 : Hid (RowAt g P W2) := Lib.hid (HRW1.out.step hb2 HRW1.out.lt)
          have HNM2 : Hid (RowAt q names W2) := Lib.hid (by rw [hW2]; exact RowAt.names hq)
          have HQB : Hid (B + 2 ≤ q ∧ g < q) := Lib.hid ⟨by have := HRD1.out.sz; omega, by have := HRW1.out.lt; omega⟩
          have HXX := Lib.hid hxx
          have HXB := Lib.hid hX
          have HQ := Lib.hid hq
          obtain ⟨P4, hP4⟩ : ∃ p, X.extract 0 4 = p := ⟨_, rfl⟩
          obtain ⟨D4, hD4⟩ : ∃ p, X.extract 4 xl = p := ⟨_, rfl⟩
          have HP4 : Hid (P4 = bts (x.take 4)) := Lib.hid (by rw [← hP4, ← hX]; exact ext_take x 4)
          have HD4 : Hid (D4 = bts (x.drop 4)) := Lib.hid (by rw [← hD4, ← hX, ← hxx]; exact ext_drop x 4)
          have HI : Hid (∀ W, Calls Tryz.prog 45 #[.string D4] W fun e w' => IntOfQ W (x.drop 4) e w') := Lib.hid (fun W => by rw [HD4.out]; exact IntOf_any (x.drop 4) W (by simp; omega))
          have hmi := mi_le x
          have HML := Lib.hid hmi
          obtain ⟨t, ht⟩ : ∃ t, mi x = t := ⟨_, rfl⟩
          have HT := Lib.hid ht
          obtain ⟨V', hV'⟩ : ∃ V', V' = setV v (nmN t) ((intOf (x.drop 4)).getD 0).toNat := ⟨_, rfl⟩
          have HV' := Lib.hid hV'
          clear hx hxx hX hj hb2 hmi ht hV' hq hjm
          go_upto_region 8 with fail
          rw [← hW2, HQ.out]
          clear hW2 d1
          go_loopg [7, 25] 3 (fun gh f y wr2 => ∃ k : Nat, k + gh = 3 ∧ y = .int .i64 (k : Int) ∧ f = .bool (decide (t < k)) ∧ Hid (RdW B (if t < k then V' else v) w wr2) ∧ Hid (RowAt g P wr2) ∧ Hid (RowAt q names wr2) ∧ Hid (t < k → stepR v x = some V'))
          case atStart => exact ⟨0, rfl, rfl, by simp, by simpa using HRD2, HRW2, HNM2, Lib.hid (fun h => by omega)⟩
          case round =>
            obtain ⟨k, hk, rfl, rfl, HRD3, HRW3, HNM3, HST⟩ := hrel
            have HK := Lib.hid hk
            by_cases hk3 : k < 3
            · have hk1 : (0 : Int) ≤ (k : Int) := by omega
              have hk2 : (k : Int) < 3 := by omega
              have d2 := HNM3.out.at' k _ (names_at hk3)
              obtain ⟨NK, hNK⟩ : ∃ N, bts (nmN k ++ [61]) = N := ⟨_, rfl⟩
              rw [hNK] at d2
              by_cases htk : t = k
              · subst htk
                have hl4 := (mi_yes hk3 HT.out).1
                rw [HXX.out] at hl4
                have hl4' : (4 : Int) < (xl : Int) := by omega
                have hcmp : (P4.toList == NK.toList) = true := by rw [HP4.out, ← hNK, bts_eq, (mi_yes hk3 HT.out).2]; simp
                have HSR := Lib.hid (stepR_mi (x := x) v hk3 HT.out)
                have hdk : decide (t < t) = false := by simp
                have HRD4 : Hid (RdW B v w wr) := Lib.hid (by have := HRD3.out; rwa [if_neg (by omega)] at this)
                have HK3 := Lib.hid hk3
                rw [hdk]
                clear hk hNK hl4 hdk hk3
                go_wp2_with fail
                refine Calls.mono (HI.out _) ?_
                rintro e w3 ⟨n, rfl, hn, hb3⟩
                have HRD5 : Hid (RdW B v w w3) := Lib.hid (HRD4.out.step hb3 HRD4.out.sz)
                have HRW5 : Hid (RowAt g P w3) := Lib.hid (HRW3.out.step hb3 HRW3.out.lt)
                have HNM5 : Hid (RowAt q names w3) := Lib.hid (HNM3.out.step hb3 HNM3.out.lt)
                clear hb3 d2
                cases hI : intOf (x.drop 4) with
                | none =>
                  have HZN : Hid (Z = .tuple #[.agg #[.int .i64 0, .int .i64 0, .int .i64 0], .int .i64 3]) := Lib.hid (by rw [← HZ.out, rdVal_none (by rw [own_none (HRD.out.trans (foldO_stop HF.out HX.out (by rw [HSR.out, hI])))])])
                  clear hI hn
                  simp only [Option.isSome_none]
                  have HRES := HRD5.out
                  have c0 := HRES.res 0 (by decide)
                  have c1 := HRES.res 1 (by decide)
                  have c2 := HRES.res 2 (by decide)
                  have f0 := HRES.rf 0
                  have f1 := HRES.rf 1
                  have f2 := HRES.rf 2
                  have HBL := Lib.hid HRES.below
                  clear HRES
                  go_wp2_with fail
                  refine bodyPost_ret (v := .tuple #[.agg #[.int .i64 0, .int .i64 0, .int .i64 0], .int .i64 3]) (by simp [results, Tryz.results46, go_sem, cell_set, c0, c1, c2, f0, f1, f2]) rfl ⟨by rw [← HZN.out], (((HBL.out.setCell (p := ⟨B, 0, none⟩) (Nat.le_refl _) _).setCell (p := ⟨B, 1, none⟩) (Nat.le_refl _) _).setCell (p := ⟨B, 2, none⟩) (Nat.le_refl _) _).mono (by have := HB.out; omega)⟩
                | some nn =>
                  obtain rfl : n = nn := hn nn hI
                  clear hn
                  simp only [Option.isSome_some]
                  by_cases h0 : n ≤ 0
                  · 
                    have HZN : Hid (Z = .tuple #[.agg #[.int .i64 0, .int .i64 0, .int .i64 0], .int .i64 3]) := Lib.hid (by rw [← HZ.out, rdVal_none (by rw [own_none (HRD.out.trans (foldO_stop HF.out HX.out (by rw [HSR.out, hI]; exact if_pos h0)))])])
                    clear hI
                    have HRES := HRD5.out
                    have c0 := HRES.res 0 (by decide)
                    have c1 := HRES.res 1 (by decide)
                    have c2 := HRES.res 2 (by decide)
                    have f0 := HRES.rf 0
                    have f1 := HRES.rf 1
                    have f2 := HRES.rf 2
                    have HBL := Lib.hid HRES.below
                    clear HRES
                    go_wp2_with fail
                    refine bodyPost_ret (v := .tuple #[.agg #[.int .i64 0, .int .i64 0, .int .i64 0], .int .i64 3]) (by simp [results, Tryz.results46, go_sem, cell_set, c0, c1, c2, f0, f1, f2]) rfl ⟨by rw [← HZN.out], (((HBL.out.setCell (p := ⟨B, 0, none⟩) (Nat.le_refl _) _).setCell (p := ⟨B, 1, none⟩) (Nat.le_refl _) _).setCell (p := ⟨B, 2, none⟩) (Nat.le_refl _) _).mono (by have := HB.out; omega)⟩
                  · have HVV : Hid (stepR v x = some V') := Lib.hid (by rw [HSR.out, hI, HV'.out, hI]; exact if_neg h0)
                    obtain ⟨u, rfl⟩ : ∃ u : Nat, n = (u : Int) := ⟨n.toNat, by omega⟩
                    have HVU : Hid (V' = setV v (nmN t) u) := Lib.hid (by rw [HV'.out, hI]; simp)
                    have d9 := HRD5.out.nums t HK3.out
                    have f9 := HRD5.out.nf t
                    clear hI
                    go_wp2_with fail
                    go_roundg (2 - t)
                    case measure => (have := HK.out; have := HK3.out; omega)
                    case rel => exact ⟨t + 1, by have := HK.out; have := HK3.out; omega, by simp, by simp, Lib.hid (by rw [if_pos (by omega), HVU.out]; exact HRD5.out.put HK3.out), Lib.hid (HRW5.out.put (by have := HGB.out; show B + 1 ≠ g; omega)), Lib.hid (HNM5.out.put (by have := HQB.out; show B + 1 ≠ q; omega)), Lib.hid (fun _ => HVV.out)⟩
              · by_cases hl4 : 4 < xl
                · have hl4' : (4 : Int) < (xl : Int) := by omega
                  have hcmp : (P4.toList == NK.toList) = false := by
                    rw [HP4.out, ← hNK, bts_eq]
                    exact decide_eq_false (mi_no hk3 (by rw [HT.out]; exact htk) (by rw [HXX.out]; exact hl4))
                  have HK3 := Lib.hid hk3
                  have hdk : decide (t < k) = decide (t < k + 1) := by
                    by_cases h : t < k
                    · rw [decide_eq_true h, decide_eq_true (by omega)]
                    · rw [decide_eq_false h, decide_eq_false (by omega)]
                  have hik : (if t < k then V' else v) = (if t < k + 1 then V' else v) := by
                    by_cases h : t < k
                    · rw [if_pos h, if_pos (by omega)]
                    · rw [if_neg h, if_neg (by omega)]
                  have HST2 : Hid (t < k + 1 → stepR v x = some V') := Lib.hid (fun h => HST.out (by omega))
                  rw [hik] at HRD3
                  rw [hdk]
                  obtain ⟨fb, hfb⟩ : ∃ b, decide (t < k + 1) = b := ⟨_, rfl⟩
                  have HFB := Lib.hid hfb
                  rw [hfb]
                  clear hk hNK hl4 hk3 htk hdk hik hfb
                  go_wp2_with fail
                  go_roundg (2 - k)
                  case measure => (have := HK.out; have := HK3.out; omega)
                  case rel => exact ⟨k + 1, by have := HK.out; have := HK3.out; omega, by simp, by rw [HFB.out], HRD3, HRW3, HNM3, HST2⟩
                · have hl4' : ¬ (4 : Int) < (xl : Int) := by omega
                  have HK3 := Lib.hid hk3
                  have hdk : decide (t < k) = decide (t < k + 1) := by
                    by_cases h : t < k
                    · rw [decide_eq_true h, decide_eq_true (by omega)]
                    · rw [decide_eq_false h, decide_eq_false (by omega)]
                  have hik : (if t < k then V' else v) = (if t < k + 1 then V' else v) := by
                    by_cases h : t < k
                    · rw [if_pos h, if_pos (by omega)]
                    · rw [if_neg h, if_neg (by omega)]
                  have HST2 : Hid (t < k + 1 → stepR v x = some V') := Lib.hid (fun h => HST.out (by omega))
                  rw [hik] at HRD3
                  rw [hdk]
                  obtain ⟨fb, hfb⟩ : ∃ b, decide (t < k + 1) = b := ⟨_, rfl⟩
                  have HFB := Lib.hid hfb
                  rw [hfb]
                  clear hk hNK hl4 hk3 htk hdk hik hfb
                  go_wp2_with fail
                  go_roundg (2 - k)
                  case measure => (have := HK.out; have := HK3.out; omega)
                  case rel => exact ⟨k + 1, by have := HK.out; have := HK3.out; omega, by simp, by rw [HFB.out], HRD3, HRW3, HNM3, HST2⟩
            · obtain rfl : k = 3 := by omega
              by_cases ht3 : t < 3
              · have hdk : decide (t < 3) = true := decide_eq_true ht3
                have HF2 := Lib.hid (foldO_next HF.out HX.out (HST.out ht3))
                have HRD4 : Hid (RdW B V' w wr) := Lib.hid (by have := HRD3.out; rwa [if_pos ht3] at this)
                rw [hdk]
                clear hk hk3 ht3 hdk
                go_wp2_with fail
                go_roundg (m - (j + 1))
                case measure => (have := HJ.out; omega)
                case rel => exact ⟨j + 1, V', by have := HJ.out; omega, by simp, HF2, HRD4, HRW3⟩
              · obtain rfl : t = 3 := by have := HML.out; have := HT.out; omega
                have hdk : decide (3 < 3) = false := rfl
                have HZN : Hid (Z = .tuple #[.agg #[.int .i64 0, .int .i64 0, .int .i64 0], .int .i64 3]) := Lib.hid (by rw [← HZ.out, rdVal_none (by rw [own_none (HRD.out.trans (foldO_stop HF.out HX.out (stepR_none v HT.out)))])])
                have HRD4 : Hid (RdW B v w wr) := Lib.hid (by have := HRD3.out; rwa [if_neg ht3] at this)
                rw [hdk]
                clear hk hk3 ht3 hdk
                have HRES := HRD4.out
                have c0 := HRES.res 0 (by decide)
                have c1 := HRES.res 1 (by decide)
                have c2 := HRES.res 2 (by decide)
                have f0 := HRES.rf 0
                have f1 := HRES.rf 1
                have f2 := HRES.rf 2
                have HBL := Lib.hid HRES.below
                clear HRES
                go_wp2_with fail
                refine bodyPost_ret (v := .tuple #[.agg #[.int .i64 0, .int .i64 0, .int .i64 0], .int .i64 3]) (by simp [results, Tryz.results46, go_sem, cell_set, c0, c1, c2, f0, f1, f2]) rfl ⟨by rw [← HZN.out], (((HBL.out.setCell (p := ⟨B, 0, none⟩) (Nat.le_refl _) _).setCell (p := ⟨B, 1, none⟩) (Nat.le_refl _) _).setCell (p := ⟨B, 2, none⟩) (Nat.le_refl _) _).mono (by have := HB.out; omega)⟩
        · obtain rfl : j = m := by omega
          have HV : Hid (readR s = some v) := Lib.hid (by rw [HRD.out]; have := HF.out; rwa [← HM.out, List.take_length] at this)
          clear hj
          go_wp2_with fail
          go_meet
          exact ⟨_, HV, HRD1⟩
  case rest =>
    obtain ⟨v, HV, HRD⟩ := hcut
    obtain ⟨a, b, c⟩ := v
    have HCAN := readR_can HV.out
    have n0 : wc.cell? ⟨B + 1, 0, none⟩ = some (.int .i64 (a : Int)) := HRD.out.nums 0 (by decide)
    have n1 : wc.cell? ⟨B + 1, 1, none⟩ = some (.int .i64 (b : Int)) := HRD.out.nums 1 (by decide)
    have n2 : wc.cell? ⟨B + 1, 2, none⟩ = some (.int .i64 (c : Int)) := HRD.out.nums 2 (by decide)
    obtain ⟨q, hq⟩ : ∃ q, wc.heap.size = q := ⟨_, rfl⟩
    obtain ⟨Wb, hWb⟩ : ∃ W, W = wc.alloc (.cells #[.int .i64 (a : Int), .int .i64 (b : Int), .int .i64 (c : Int)] 23) := ⟨_, rfl⟩
    have hbb : Below wc.heap.size wc Wb := by rw [hWb]; exact (Below.refl _ _).alloc (Nat.le_refl _) _
    have HRDb : Hid (RdW B (a, b, c) w Wb) := Lib.hid (HRD.out.step hbb HRD.out.sz)
    have m0 : Wb.cell? ⟨q, 0, none⟩ = some (.int .i64 (a : Int)) := by rw [hWb]; exact (topCell _ _ _ q 0 hq.symm).trans rfl
    have m1 : Wb.cell? ⟨q, 1, none⟩ = some (.int .i64 (b : Int)) := by rw [hWb]; exact (topCell _ _ _ q 1 hq.symm).trans rfl
    have m2 : Wb.cell? ⟨q, 2, none⟩ = some (.int .i64 (c : Int)) := by rw [hWb]; exact (topCell _ _ _ q 2 hq.symm).trans rfl
    have hqb : q < Wb.heap.size := by rw [hWb, ← hq]; simp
    have HQ := Lib.hid hq
    have HQB : Hid (B + 2 ≤ q) := Lib.hid (by have := HRD.out.sz; omega)
    obtain ⟨T, hT⟩ : ∃ T, bts (needText (a, b, c)) = T := ⟨_, rfl⟩
    have HTX : Hid (∀ W, Calls Tryz.prog 42 #[.agg #[.int .i64 (a : Int), .int .i64 (b : Int), .int .i64 (c : Int)]] W fun e w' => e = .returned (.string T) ∧ Below W.heap.size W w') := Lib.hid (fun W => by rw [← hT]; exact NeedText_any a b c HCAN W)
    obtain ⟨tb, htb⟩ : ∃ b, (T.toList == S.toList) = b := ⟨_, rfl⟩
    have HTB : Hid (tb = decide (needText (a, b, c) = s)) := Lib.hid (by rw [← htb, ← hT, ← HS.out, bts_eq])
    have HFA : Hid (∀ W, Calls Tryz.prog 36 #[.agg #[.int .i64 (a : Int), .int .i64 (b : Int), .int .i64 (c : Int)]] W fun e w' => e = .returned (.int .i64 (needE a b c)) ∧ Below W.heap.size W w') := Lib.hid (fun W => needFault_any (a : Int) (b : Int) (c : Int) W)
    clear hq hbb HCAN hT
    go_upto_region 21 with fail
    rw [← hWb, HQ.out]
    clear hWb n0 n1 n2
    go_wp2_with fail
    refine Calls.mono (HTX.out _) ?_
    rintro e w2 ⟨rfl, hb2⟩
    have HRD2 : Hid (RdW B (a, b, c) w w2) := Lib.hid (HRDb.out.step hb2 HRDb.out.sz)
    replace m0 := (hb2.cell (p := ⟨q, 0, none⟩) hqb).trans m0
    replace m1 := (hb2.cell (p := ⟨q, 1, none⟩) hqb).trans m1
    replace m2 := (hb2.cell (p := ⟨q, 2, none⟩) hqb).trans m2
    replace hqb := Nat.lt_of_lt_of_le hqb hb2.size
    clear hb2
    cases tb with
    | false =>
      have hne : ¬ needText (a, b, c) = s := of_decide_eq_false HTB.out.symm
      have HZN : Hid (Z = .tuple #[.agg #[.int .i64 0, .int .i64 0, .int .i64 0], .int .i64 3]) := Lib.hid (by rw [← HZ.out, rdVal_none (by rw [HV.out]; unfold own; exact if_neg hne)])
      have HRES := HRD2
      have c0 := HRES.out.res 0 (by decide)
      have c1 := HRES.out.res 1 (by decide)
      have c2 := HRES.out.res 2 (by decide)
      have f0 := HRES.out.rf 0
      have f1 := HRES.out.rf 1
      have f2 := HRES.out.rf 2
      have HBL := Lib.hid HRES.out.below
      clear hne
      go_wp2_with fail
      refine bodyPost_ret (v := .tuple #[.agg #[.int .i64 0, .int .i64 0, .int .i64 0], .int .i64 3]) (by simp [results, Tryz.results46, go_sem, cell_set, c0, c1, c2, f0, f1, f2, m0, m1, m2]) rfl ⟨by rw [← HZN.out], (((HBL.out.setCell (p := ⟨B, 0, none⟩) (Nat.le_refl _) _).setCell (p := ⟨B, 1, none⟩) (Nat.le_refl _) _).setCell (p := ⟨B, 2, none⟩) (Nat.le_refl _) _).mono (by have := HB.out; omega)⟩
    | true =>
      have heq : needText (a, b, c) = s := of_decide_eq_true HTB.out.symm
      have HOW : Hid (own (readR s) s = some (a, b, c)) := Lib.hid (by rw [HV.out]; unfold own; exact if_pos heq)
      clear heq
      go_wp2_with fail
      refine Calls.mono (HFA.out _) ?_
      rintro e w3 ⟨rfl, hb3⟩
      have HRES : Hid (RdW B (a, b, c) w w3) := Lib.hid (HRD2.out.step hb3 HRD2.out.sz)
      replace m0 := (hb3.cell (p := ⟨q, 0, none⟩) hqb).trans m0
      replace m1 := (hb3.cell (p := ⟨q, 1, none⟩) hqb).trans m1
      replace m2 := (hb3.cell (p := ⟨q, 2, none⟩) hqb).trans m2
      clear hb3 hqb
      have c0 := HRES.out.res 0 (by decide)
      have c1 := HRES.out.res 1 (by decide)
      have c2 := HRES.out.res 2 (by decide)
      have f0 := HRES.out.rf 0
      have f1 := HRES.out.rf 1
      have f2 := HRES.out.rf 2
      have HBL := Lib.hid HRES.out.below
      cases hnb : needB (a : Int) b c with
      | false =>
        have HZN : Hid (Z = .tuple #[.agg #[.int .i64 0, .int .i64 0, .int .i64 0], .int .i64 4]) := Lib.hid (by rw [← HZ.out, rdVal_bad HOW.out hnb])
        have hE : needE (a : Int) b c = 4 := by unfold needE; rw [hnb]; rfl
        rw [hE]
        clear hnb hE
        go_wp2_with fail
        refine bodyPost_ret (v := .tuple #[.agg #[.int .i64 0, .int .i64 0, .int .i64 0], .int .i64 4]) (by simp [results, Tryz.results46, go_sem, cell_set, c0, c1, c2, f0, f1, f2, m0, m1, m2]) rfl ⟨by rw [← HZN.out], (((HBL.out.setCell (p := ⟨B, 0, none⟩) (Nat.le_refl _) _).setCell (p := ⟨B, 1, none⟩) (Nat.le_refl _) _).setCell (p := ⟨B, 2, none⟩) (Nat.le_refl _) _).mono (by have := HB.out; omega)⟩
      | true =>
        have HZN : Hid (Z = .tuple #[.agg #[.int .i64 (a : Int), .int .i64 (b : Int), .int .i64 (c : Int)], .int .i64 0]) := Lib.hid (by rw [← HZ.out, rdVal_ok HOW.out hnb])
        have hE : needE (a : Int) b c = 0 := by unfold needE; rw [hnb]; rfl
        rw [hE]
        clear hnb hE
        go_wp2_with fail
        refine bodyPost_ret (v := .tuple #[.agg #[.int .i64 (a : Int), .int .i64 (b : Int), .int .i64 (c : Int)], .int .i64 0]) (by simp [results, Tryz.results46, go_sem, cell_set, c0, c1, c2, f0, f1, f2, m0, m1, m2]) rfl ⟨by rw [← HZN.out], (((HBL.out.setCell (p := ⟨B, 0, none⟩) (Nat.le_refl _) _).setCell (p := ⟨B, 1, none⟩) (Nat.le_refl _) _).setCell (p := ⟨B, 2, none⟩) (Nat.le_refl _) _).mono (by have := HB.out; omega)⟩
end Go.Proofs.YtkemlckmfgacdaaGreatDoor
/- Contracts of what both readers of a job call, in one form. -/
namespace Go.Proofs.YtkemlckmfgacdaaGreatDoor
open Go.ChangeShapes Go.WideShapes Go.ChangeAt Go.RowKit
set_option linter.unusedVariables false
set_option linter.unusedSimpArgs false
open Tp Jm
/-- what Atoi tells -/
def AtoiQ (w : World) (s : Bs) (e : Ending) (w' : World) : Prop := Below w.heap.size w w' ∧ match numA s with
  | some v => e = .returned (.tuple #[.int .i64 v, .nilIface])
  | none => ∃ n t p, e = .returned (.tuple #[.int .i64 n, .iface t p])
theorem Atoi_any (s : Bs) (w : World) (hs : s.length ≤ 281474976710656) (he : Env w) : Calls Tryz.prog 32 #[.string (bts s)] w (AtoiQ w s) := by
  obtain ⟨t1, p1, h1⟩ := he.e1
  obtain ⟨t2, p2, h2⟩ := he.e2
  have hsz : (bts s).size ≤ 281474976710656 := by rw [bts_size]; exact hs
  unfold AtoiQ numA
  cases h : Lib.atoiAll s with
  | ok v =>
    refine Calls.mono (Tryz.strconv_Atoi_ok (bts s) (by omega) v h w) ?_
    rintro e w' ⟨rfl, hw⟩
    refine ⟨?_, rfl⟩
    rcases hw with rfl | ⟨t, rfl⟩
    · exact Below.refl _ _
    · exact Go.Joins.below_bytesWorld _ w _ t (Nat.le_refl _)
  | range =>
    refine Calls.mono (Tryz.strconv_Atoi_range (bts s) hsz h _ w h2 (.inr ⟨t2, p2, rfl⟩)) ?_
    rintro e w' ⟨N, rfl, hN, hc, hb⟩
    exact ⟨hb, _, _, _, rfl⟩
  | _ =>
    refine Calls.mono (Any.strconv_Atoi_syntax Tryz.laysC172 (bts s) hsz h _ w h1 (.inr ⟨t1, p1, rfl⟩)) ?_
    rintro e w' ⟨N, rfl, hN, hc, hb⟩
    exact ⟨hb, _, _, _, rfl⟩
/-- what need.Read and the document's tell -/
theorem rd_nd (s : Bs) : ∃ (v : Nt.V3) (code : Int), Nt.own (Nt.readP s) s = Nt.own (Nt.readR s) s ∧ rdVal (Nt.own (Nt.readR s) s) = .tuple #[.agg #[.int .i64 (v.1 : Int), .int .i64 (v.2.1 : Int), .int .i64 (v.2.2 : Int)], .int .i64 code] ∧ ((nd s = some v ∧ code = 0) ∨ (nd s = none ∧ code ≠ 0)) := by
  refine ⟨(readOf (Nt.own (Nt.readR s) s)).1, (readOf (Nt.own (Nt.readR s) s)).2, Nt.own_same s, rfl, ?_⟩
  unfold nd readOf
  cases Nt.own (Nt.readR s) s with
  | none => exact .inr ⟨rfl, by decide⟩
  | some v =>
    simp only
    cases needB v.1 v.2.1 v.2.2 with
    | true => exact .inl ⟨rfl, rfl⟩
    | false => exact .inr ⟨rfl, by show (4 : Int) ≠ 0; decide⟩
theorem need_p (s : Bs) (w : World) (hs : s.length < 4294967281) (he : Env w) : Calls Tryz.prog 33 #[.string (bts s)] w fun e w' => Below w.heap.size w w' ∧ ∃ (v : Nt.V3) (code : Int), e = .returned (.tuple #[.agg #[.int .i64 (v.1 : Int), .int .i64 (v.2.1 : Int), .int .i64 (v.2.2 : Int)], .int .i64 code]) ∧ ((nd s = some v ∧ code = 0) ∨ (nd s = none ∧ code ≠ 0)) := by
  obtain ⟨v, code, h1, h2, h3⟩ := rd_nd s
  refine Calls.mono (Read_any s w hs he) ?_
  rintro e w' ⟨rfl, hb⟩
  exact ⟨hb, v, code, by rw [h1, h2], h3⟩
theorem need_r (s : Bs) (w : World) (hs : s.length ≤ 1099511627776) : Calls Tryz.prog 46 #[.string (bts s)] w fun e w' => Below w.heap.size w w' ∧ ∃ (v : Nt.V3) (code : Int), e = .returned (.tuple #[.agg #[.int .i64 (v.1 : Int), .int .i64 (v.2.1 : Int), .int .i64 (v.2.2 : Int)], .int .i64 code]) ∧ ((nd s = some v ∧ code = 0) ∨ (nd s = none ∧ code ≠ 0)) := by
  obtain ⟨v, code, h1, h2, h3⟩ := rd_nd s
  refine Calls.mono (NeedRead_any s w hs) ?_
  rintro e w' ⟨rfl, hb⟩
  exact ⟨hb, v, code, by rw [h2], h3⟩
/-- what ask.Read tells, long texts too -/
theorem ask_p (s : Bs) (w : World) (he : Env w) : Calls Tryz.prog 34 #[.string (bts s)] w fun e w' => Below w.heap.size w w' ∧ ∃ (y0 : Int) (y1 y2 : ByteArray) (y3 : Int) (yd : Option Addr) (yl yc : Nat) (ec : Int), e = .returned (.tuple #[.agg #[.int .i64 y0, .string y1, .string y2, .int .i64 y3, .slice yd yl yc], .int .i64 ec]) ∧ ((∃ x, askS s = some x ∧ ec = 0 ∧ AskVP (fun b => w.heap.size ≤ b) w' x (.agg #[.int .i64 y0, .string y1, .string y2, .int .i64 y3, .slice yd yl yc])) ∨ (askS s = none ∧ ec ≠ 0)) := by
  refine Calls.mono (read_law s w he) ?_
  rintro e w' ⟨hb, y0, y1, y2, y3, yd, yl, yc, ec, h1, h2⟩
  refine ⟨hb, y0, y1, y2, y3, yd, yl, yc, ec, h1, ?_⟩
  unfold askS
  rcases h2 with ⟨hl, he2, _⟩ | ⟨hl, he2, hv⟩
  · exact .inr ⟨if_pos hl, by omega⟩
  · rw [if_neg (by omega)]
    cases hO : Ar.own (Ar.readR s) s with
    | none => rw [hO] at he2; exact .inr ⟨rfl, by simp at he2; omega⟩
    | some x => rw [hO] at he2 hv; exact .inl ⟨x, rfl, by simpa using he2, hv⟩
theorem ask_r (s : Bs) (w : World) (hs : s.length ≤ 2000) : Calls Tryz.prog 47 #[.string (bts s)] w fun e w' => Below w.heap.size w w' ∧ ∃ (y0 : Int) (y1 y2 : ByteArray) (y3 : Int) (yd : Option Addr) (yl yc : Nat) (ok : Bool), e = .returned (.tuple #[.agg #[.int .i64 y0, .string y1, .string y2, .int .i64 y3, .slice yd yl yc], .bool ok]) ∧ ((∃ x, askL s = some x ∧ ok = true ∧ AskVP (fun b => w.heap.size ≤ b) w' x (.agg #[.int .i64 y0, .string y1, .string y2, .int .i64 y3, .slice yd yl yc])) ∨ (askL s = none ∧ ok = false)) := by
  refine Calls.mono (refRead_any s w hs) ?_
  intro e w' hq
  obtain ⟨hb, z0, z1, z2, z3, zd, zl, zc, h1, h2⟩ := hq.form
  refine ⟨hb, z0, z1, z2, z3, zd, zl, zc, _, h1, ?_⟩
  unfold askL
  cases hO : Ar.own (Ar.readR s) s with
  | none => exact .inr ⟨rfl, rfl⟩
  | some x => rw [hO] at h2; exact .inl ⟨x, rfl, rfl, h2⟩
/-- what the readers tell -/
def JobRdQ (w : World) (o : Option Jb) (code : Int) (e : Ending) (w' : World) : Prop := Below w.heap.size w w' ∧ match o with
  | some j => ∃ v, e = .returned (.tuple #[v, .int .i64 0]) ∧ JobV w' j v
  | none => e = .returned (.tuple #[jobVal ⟨#[]⟩ 0 0 0 0 0 ⟨#[]⟩ ⟨#[]⟩ 0 none 0 0 none 0 0, .int .i64 code])
/-- cells of a job's box -/
def jcells (u : ByteArray) (p a b c x0 : Int) (x1 x2 : ByteArray) (x3 : Int) (xd : Option Addr) (xl xc : Nat) (s : Value) : List Value := [.string u, .int .i64 p, .int .i64 a, .int .i64 b, .int .i64 c, .int .i64 x0, .string x1, .string x2, .int .i64 x3, .slice xd xl xc, s]
def zcells : List Value := jcells ⟨#[]⟩ 0 0 0 0 0 ⟨#[]⟩ ⟨#[]⟩ 0 none 0 0 (.slice none 0 0)
theorem nums_snoc {num : Bs → Option Int} : ∀ (P : List Bs) (x : Bs), nums num (P ++ [x]) = match nums num P with
    | none => none
    | some l => (match num x with | none => none | some n => some (l ++ [n]))
  | [], x => by
    cases h : num x <;> simp [nums, h]
  | y :: P, x => by
    rw [List.cons_append, nums, nums]
    cases num y with
    | none => rfl
    | some m =>
      simp only
      rw [nums_snoc P x]
      cases nums num P with
      | none => rfl
      | some l =>
        simp only
        cases num x <;> rfl
theorem nums_stop {num : Bs → Option Int} : ∀ {P : List Bs} {k : Nat} {x : Bs} {l : List Int}, nums num (P.take k) = some l → P[k]? = some x → num x = none → nums num P = none
  | [], k, x, l, _, hx, _ => by simp at hx
  | y :: P, 0, x, l, h, hx, hn => by
    simp at hx
    subst hx
    rw [nums, hn]
  | y :: P, k + 1, x, l, h, hx, hn => by
    rw [List.take_succ_cons, nums] at h
    rw [nums]
    cases hy : num y with
    | none => rfl
    | some m =>
      rw [hy] at h
      simp only at h ⊢
      cases hl : nums num (P.take k) with
      | none => rw [hl] at h; cases h
      | some l' => rw [nums_stop hl (by simpa using hx) hn]
theorem nums_len {num : Bs → Option Int} : ∀ {P : List Bs} {l : List Int}, nums num P = some l → l.length = P.length
  | [], l, h => by cases h; rfl
  | y :: P, l, h => by
    rw [nums] at h
    cases hy : num y with
    | none => rw [hy] at h; cases h
    | some m =>
      rw [hy] at h
      simp only at h
      cases hl : nums num P with
      | none => rw [hl] at h; cases h
      | some l' => rw [hl] at h; cases h; simp [nums_len hl]
end Go.Proofs.YtkemlckmfgacdaaGreatDoor
