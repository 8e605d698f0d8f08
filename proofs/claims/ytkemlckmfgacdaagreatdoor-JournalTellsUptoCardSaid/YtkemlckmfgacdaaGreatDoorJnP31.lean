/- Contract: the document's AskRead. -/
import Derived.Test.YtkemlckmfgacdaaGreatDoorJnP26
import Derived.Test.YtkemlckmfgacdaaGreatDoorJnP27
import Derived.Test.YtkemlckmfgacdaaGreatDoorJnP28
import Derived.Test.YtkemlckmfgacdaaGreatDoorJnP29
import Derived.Test.YtkemlckmfgacdaaGreatDoorJnP30
import Derived.Test.YtkemlckmfgacdaaGreatDoorJnP22
import Derived.Test.YtkemlckmfgacdaaGreatDoorJnP19
namespace Go.Proofs.YtkemlckmfgacdaaGreatDoor
set_option maxRecDepth 20000
set_option maxHeartbeats 64000000
open Go.ChangeShapes Go.WideShapes Go.ChangeAt Go.RowKit
set_option linter.unusedVariables false
set_option linter.unusedSimpArgs false
open Tp
theorem askR_less : ∀ (N : Nat) (s : Bs) (x : Ask) (r : Bs), Ar.askR N s = some (x, r) → x.size + r.length ≤ s.length
 | 0, s, x, r, h => by simp [Ar.askR] at h
 | N + 1, s, x, r, h => by
  unfold Ar.askR at h
  split at h
  ·cases h
  ·rename_i t
   cases h
   have := Ar.rest_len t
   simp [Ask.size, Ask.sizes]; omega
  ·rename_i t
   split at h
   ·cases h
   ·rename_i y r' hy
    cases h
    have h1 := askR_less N _ _ _ hy
    simp [Ask.size, Ask.sizes]; omega
  ·rename_i t
   split at h
   ·cases h
   ·rename_i a r' ha
    have h1 := askR_less N _ _ _ ha
    split at h
    ·rename_i r2
     split at h
     ·rename_i b r3 hb
      cases h
      have g1 := askR_less N _ _ _ hb
      simp at h1 g1
      simp [Ask.size, Ask.sizes]; omega
     ·cases h
    ·rename_i r2
     split at h
     ·rename_i b r3 hb
      cases h
      have g1 := askR_less N _ _ _ hb
      simp at h1 g1
      simp [Ask.size, Ask.sizes]; omega
     ·cases h
    ·cases h
  ·split at h
   ·rename_i t ht
    split at h
    ·cases h
     have h1 := Ar.rest_len s
     have h2 := Ar.rest_len t
     rw [ht] at h1
     simp at h1
     simp [Ask.size, Ask.sizes]; omega
    ·cases h
   ·rename_i t ht
    cases h
    have h1 := Ar.rest_len s
    have h2 := Ar.rest_len t
    rw [ht] at h1
    simp at h1
    simp [Ask.size, Ask.sizes]; omega
   ·cases h
theorem askAt_all : ∀ (N : Nat) (s : Bs) (w : World), N ≤ 61 → s.length ≤ 2000 → Calls Tryz.prog 76 #[.string (bts s), .int .i64 (N : Int)] w (AskAtQ w (Ar.askR N s))
 | 0, s, w, hN, hs => by
  have h : Ar.askR 0 s = none := by simp [Ar.askR]
  rw [h]; exact askAt_none 0 s w hN hs (.inl rfl)
 | N + 1, [], w, hN, hs => by
  rw [askR_nil]; exact askAt_none (N + 1) [] w hN hs (.inr rfl)
 | N + 1, c :: t, w, hN, hs => by
  have hs1 : t.length ≤ 1999 := by simp only [List.length_cons] at hs; omega
  by_cases h1 : c = 63
  ·subst h1; exact askAt_has N t w (by omega) hs1
  by_cases h2 : c = 33
  ·subst h2; exact askAt_not N t w (by omega) hs1 (fun W => askAt_all N t W (by omega) (by omega))
  by_cases h3 : c = 40
  ·subst h3; exact askAt_two N t w (by omega) hs1 (fun s' W h => askAt_all N s' W (by omega) h) (fun s' x r h => by have := askR_less N s' x r h; omega)
  rw [askR_other (by simp) (fun t' e => h1 (List.cons.inj e).1) (fun t' e => h2 (List.cons.inj e).1) (fun t' e => h3 (List.cons.inj e).1)]
  by_cases g1 : ∃ r, Ar.rest (c :: t) = 62 :: 61 :: r
  ·obtain ⟨r, hr⟩ := g1
   rw [hr]; exact askAt_more N c t w (by omega) hs1 h1 h2 h3 r hr
  by_cases g2 : ∃ r, Ar.rest (c :: t) = 61 :: r
  ·obtain ⟨r, hr⟩ := g2
   rw [hr]; exact askAt_is N c t w (by omega) hs1 h1 h2 h3 r hr
  rw [elseR_no (fun r e => g1 ⟨r, e⟩) (fun r e => g2 ⟨r, e⟩)]
  exact askAt_no N c t w (by omega) hs1 h1 h2 h3 (fun r e => g1 ⟨r, e⟩) (fun r e => g2 ⟨r, e⟩)
def AskRrQ (w : World) (o : Option Ask) (e : Ending) (w' : World) : Prop := Below w.heap.size w w' ∧ match o with
 | some x => ∃ (x0 : Int) (x1 x2 : ByteArray) (x3 : Int) (xd : Option Addr) (xl xc : Nat), e = .returned (.tuple #[.agg #[.int .i64 x0, .string x1, .string x2, .int .i64 x3, .slice xd xl xc], .bool true]) ∧ AskVP (fun b => w.heap.size ≤ b) w' x (.agg #[.int .i64 x0, .string x1, .string x2, .int .i64 x3, .slice xd xl xc])
 | none => e = .returned (.tuple #[zero5, .bool false])
theorem refRead_any (s : Bs) (w : World) (hs : s.length ≤ 2000) : Calls Tryz.prog 47 #[.string (bts s)] w (AskRrQ w (Ar.own (Ar.readR s) s)) := by
 obtain ⟨S, hS⟩ : ∃ S, bts s = S := ⟨_, rfl⟩
 have HS := hid hS
 obtain ⟨c, hc⟩ : ∃ c, c = w.heap.size := ⟨_, rfl⟩
 obtain ⟨W0, hW0⟩ : ∃ W, W = w.alloc (.cells #[.int .i64 0, .string ⟨#[]⟩, .string ⟨#[]⟩, .int .i64 0, .slice none 0 0] 26) := ⟨_, rfl⟩
 have HB0 : Hid (Below w.heap.size w W0) := hid (be0 hW0)
 have HBX0 : Hid (Box5 c W0) := hid (by rw [hW0]; exact Box5.top hc)
 have HC : Hid (c = w.heap.size) := hid hc
 have HA := hid (askAt_all 61 s W0 (by omega) hs)
 have HSL := hid hs
 rw [hS] at HA
 obtain ⟨O, hO⟩ : ∃ O, Ar.own (Ar.readR s) s = O := ⟨_, rfl⟩
 have HO := hid hO
 rw [hO, hS]
 clear hS hs hO
 go_enter Tryz.func47, Tryz.ntmps47
 go_upto_region 1 with fail
 rw [← hW0, ← hc]
 clear hW0 hc
 go_wp2_with fail
 refine Calls.mono HA.out ?_
 rintro e W2 hq
 obtain ⟨hb2, bv, x0, x1, x2, x3, xd, xl, xc, t', rfl, hq2⟩ := hq.form
 have HQ2 := hid hq2
 have HB02 := hid hb2
 have HBX2 := hid (HBX0.out.but (But.ofBelow (rb := W0.heap.size) hb2 lr) (Nat.ne_of_lt HBX0.out.lt))
 have HB2 : Hid (Below w.heap.size w W2) := hid (HB0.out.trans (hb2.mono HB0.out.size))
 clear hb2 hq hq2
 go_upto_region 2 with fail
 obtain ⟨W3, hW3⟩ : ∃ W, W = W2.alloc (.cells #[.int .i64 x0, .string x1, .string x2, .int .i64 x3, .slice xd xl xc] 26) := ⟨_, rfl⟩
 obtain ⟨d, hd⟩ : ∃ d, d = W2.heap.size := ⟨_, rfl⟩
 have hb3 : Below W2.heap.size W2 W3 := be0 hW3
 have HBX3 : Hid (Box5 c W3) := hid (HBX2.out.but (But.ofBelow (rb := W2.heap.size) hb3 lr) (Nat.ne_of_lt HBX2.out.lt))
 have b0 : W3.cell? ⟨d, 0, none⟩ = some (.int .i64 x0) := by rw [hW3]; exact (cell_top _ _ _ _ _ hd).trans rfl
 have b1 : W3.cell? ⟨d, 1, none⟩ = some (.string x1) := by rw [hW3]; exact (cell_top _ _ _ _ _ hd).trans rfl
 have b2 : W3.cell? ⟨d, 2, none⟩ = some (.string x2) := by rw [hW3]; exact (cell_top _ _ _ _ _ hd).trans rfl
 have b3 : W3.cell? ⟨d, 3, none⟩ = some (.int .i64 x3) := by rw [hW3]; exact (cell_top _ _ _ _ _ hd).trans rfl
 have b4 : W3.cell? ⟨d, 4, none⟩ = some (.slice xd xl xc) := by rw [hW3]; exact (cell_top _ _ _ _ _ hd).trans rfl
 have hdl : d < W3.heap.size := by rw [hW3, hd]; simp
 have HB3 : Hid (Below w.heap.size w W3) := hid (HB2.out.trans (hb3.mono HB2.out.size))
 have H23 := hid hb3
 rw [← hW3, ← hd]
 clear hW3 hd hb3
 have hq2 := HQ2.out
 cases hp : Ar.askR 61 s with
 | none =>
  rw [hp] at hq2
  obtain rfl : bv = false := hq2
  have HP : Hid (O = none) := hid (by rw [← HO.out]; unfold Ar.readR; rw [hp]; rfl)
  clear hp b0 b1 b2 b3 b4
  have r0 := HBX3.out.r0
  have r1 := HBX3.out.r1
  have r2 := HBX3.out.r2
  have r3 := HBX3.out.r3
  have r4 := HBX3.out.r4
  have q0 := HBX3.out.fz 0
  have q1 := HBX3.out.fz 1
  have q2 := HBX3.out.fz 2
  have q3 := HBX3.out.fz 3
  have q4 := HBX3.out.fz 4
  have hcl := HBX3.out.lt
  go_wp2_with fail
  refine bodyPost_ret (v := .tuple #[.agg #[.int .i64 0, .string ⟨#[]⟩, .string ⟨#[]⟩, .int .i64 0, .slice none 0 0], .bool false]) (by simp [results, Tryz.results47, go_sem, cell_set, r0, r1, r2, r3, r4, hcl]) rfl ?_
  show AskRrQ w _ _ (five W3 c (.int .i64 0) (.string ⟨#[]⟩) (.string ⟨#[]⟩) (.int .i64 0) (.slice none 0 0))
  rw [HP.out]
  exact ⟨five_below HB3.out c _ _ _ _ _ (Nat.le_of_eq HC.out.symm), rfl⟩
 | some p =>
  obtain ⟨x, r⟩ := p
  rw [hp] at hq2
  obtain ⟨rfl, htr, hv⟩ := hq2
  have hless := askR_less 61 s x r hp
  by_cases hr : r = []
  ·subst hr
   have htl : t'.toList = [] := by rw [← htr, bts_toList]
   have htl2 : (t'.toList != []) = false := by rw [htl]; rfl
   have htl3 : (t'.toList == []) = true := by rw [htl]; rfl
   obtain ⟨f, hf⟩ : ∃ f, x.fault = f := ⟨_, rfl⟩
   have HF := hid hf
   have HRP : Hid (Ar.readR s = some x) := hid (by unfold Ar.readR; rw [hp])
   have HV := hid hv
   have HSZ : Hid (x.size ≤ 1000000000) := hid (by have := HSL.out; omega)
   have HV3 : Hid (AskV W3 x (.agg #[.int .i64 x0, .string x1, .string x2, .int .i64 x3, .slice xd xl xc])) := hid (AskV.below H23.out _ _ (AskVP.toV _ _ hv))
   have HTX := hid (AskFault_any x _ W3 HSZ.out HV3.out)
   rw [hf] at HTX
   clear hp hv hf htr hless
   go_wp2_with fail
   refine Calls.mono HTX.out ?_
   rintro e W4 ⟨rfl, hbn⟩
   have H34 := hid (hbn)
   replace b0 := (hbn.cell (p := ⟨d, 0, none⟩) hdl).trans b0
   replace b1 := (hbn.cell (p := ⟨d, 1, none⟩) hdl).trans b1
   replace b2 := (hbn.cell (p := ⟨d, 2, none⟩) hdl).trans b2
   replace b3 := (hbn.cell (p := ⟨d, 3, none⟩) hdl).trans b3
   replace b4 := (hbn.cell (p := ⟨d, 4, none⟩) hdl).trans b4
   have hdl4 : d < W4.heap.size := Nat.lt_of_lt_of_le hdl hbn.size
   have HB4 : Hid (Below w.heap.size w W4) := hid (HB3.out.trans (hbn.mono HB3.out.size))
   have HBX4 : Hid (Box5 c W4) := hid (HBX3.out.but (But.ofBelow (rb := W3.heap.size) hbn lr) (Nat.ne_of_lt HBX3.out.lt))
   clear hbn
   by_cases h0 : f = 0
   ·subst h0
    have hg := Ar.fault_good HF.out
    have HV4 : Hid (AskV W4 x (.agg #[.int .i64 x0, .string x1, .string x2, .int .i64 x3, .slice xd xl xc])) := hid (AskV.below H34.out _ _ HV3.out)
    have HER : Hid (x.err = 0) := hid (by have := HF.out; unfold Ask.fault at this; rw [if_neg (by have := hg.2; omega)] at this; exact this)
    have HTY := hid (refText_all x.size x _ W4 lr hg.2 HER.out HV4.out)
    obtain ⟨T, hT⟩ : ∃ T, bts (Ar.txt x) = T := ⟨_, rfl⟩
    have HT := hid hT
    rw [hT] at HTY
    clear hg hT
    go_wp2_with fail
    refine Calls.mono HTY.out ?_
    rintro e W5 ⟨rfl, hbn⟩
    have H35 := hid (H34.out.trans (hbn.mono H34.out.size))
    replace b0 := (hbn.cell (p := ⟨d, 0, none⟩) hdl4).trans b0
    replace b1 := (hbn.cell (p := ⟨d, 1, none⟩) hdl4).trans b1
    replace b2 := (hbn.cell (p := ⟨d, 2, none⟩) hdl4).trans b2
    replace b3 := (hbn.cell (p := ⟨d, 3, none⟩) hdl4).trans b3
    replace b4 := (hbn.cell (p := ⟨d, 4, none⟩) hdl4).trans b4
    have hdl5 : d < W5.heap.size := Nat.lt_of_lt_of_le hdl4 hbn.size
    have HB5 : Hid (Below w.heap.size w W5) := hid (HB4.out.trans (hbn.mono HB4.out.size))
    have HBX5 : Hid (Box5 c W5) := hid (HBX4.out.but (But.ofBelow (rb := W4.heap.size) hbn lr) (Nat.ne_of_lt HBX4.out.lt))
    clear hbn
    obtain ⟨tb, htb⟩ : ∃ b, (T.toList == S.toList) = b := ⟨_, rfl⟩
    have HTB : Hid (decide (Ar.txt x = s) = tb) := hid (by
     rw [← htb, ← HT.out, ← HS.out, bts_toList, bts_toList]
     by_cases h : Ar.txt x = s
     ·rw [h]; simp
     ·simp [h])
    have htb2 : (T.toList != S.toList) = !tb := by rw [bne, htb]
    cases tb with
    | false =>
     have HP : Hid (O = none) := hid (by
      rw [← HO.out, HRP.out]
      show (if x.fault = 0 ∧ Ar.txt x = s then some x else none) = none
      exact if_neg (fun h => of_decide_eq_false HTB.out h.2))
     clear b0 b1 b2 b3 b4
     have r0 := HBX5.out.r0
     have r1 := HBX5.out.r1
     have r2 := HBX5.out.r2
     have r3 := HBX5.out.r3
     have r4 := HBX5.out.r4
     have q0 := HBX5.out.fz 0
     have q1 := HBX5.out.fz 1
     have q2 := HBX5.out.fz 2
     have q3 := HBX5.out.fz 3
     have q4 := HBX5.out.fz 4
     have hcl := HBX5.out.lt
     go_wp2_with fail
     refine bodyPost_ret (v := .tuple #[.agg #[.int .i64 0, .string ⟨#[]⟩, .string ⟨#[]⟩, .int .i64 0, .slice none 0 0], .bool false]) (by simp [results, Tryz.results47, go_sem, cell_set, r0, r1, r2, r3, r4, hcl]) rfl ?_
     show AskRrQ w _ _ (five W5 c (.int .i64 0) (.string ⟨#[]⟩) (.string ⟨#[]⟩) (.int .i64 0) (.slice none 0 0))
     rw [HP.out]
     exact ⟨five_below HB5.out c _ _ _ _ _ (Nat.le_of_eq HC.out.symm), rfl⟩
    | true =>
     have HP : Hid (O = some x) := hid (by
      rw [← HO.out, HRP.out]
      show (if x.fault = 0 ∧ Ar.txt x = s then some x else none) = some x
      exact if_pos ⟨HF.out, of_decide_eq_true HTB.out⟩)
     have r0 := HBX5.out.r0
     have r1 := HBX5.out.r1
     have r2 := HBX5.out.r2
     have r3 := HBX5.out.r3
     have r4 := HBX5.out.r4
     have q0 := HBX5.out.fz 0
     have q1 := HBX5.out.fz 1
     have q2 := HBX5.out.fz 2
     have q3 := HBX5.out.fz 3
     have q4 := HBX5.out.fz 4
     have hcl := HBX5.out.lt
     go_wp2_with fail
     refine bodyPost_ret (v := .tuple #[.agg #[.int .i64 x0, .string x1, .string x2, .int .i64 x3, .slice xd xl xc], .bool true]) (by simp [results, Tryz.results47, go_sem, cell_set, r0, r1, r2, r3, r4, hcl]) rfl ?_
     show AskRrQ w _ _ (five W5 c (.int .i64 x0) (.string x1) (.string x2) (.int .i64 x3) (.slice xd xl xc))
     rw [HP.out]
     refine ⟨five_below HB5.out c _ _ _ _ _ (Nat.le_of_eq HC.out.symm), x0, x1, x2, x3, xd, xl, xc, rfl, ?_⟩
     have hcW0 : c < W0.heap.size := HBX0.out.lt
     have hs5 : W2.heap.size ≤ W5.heap.size := Nat.le_trans H23.out.size H35.out.size
     refine AskVP.stays (fun b h => Nat.le_trans HB0.out.size h) (by rw [five_size]; exact hs5) (fun b h hb => ?_) _ _ HV.out
     rw [five_heap _ _ _ _ _ _ _ b (by have : W0.heap.size ≤ b := h; omega), H35.out.block b (Nat.lt_of_lt_of_le hb H23.out.size), H23.out.block b hb]
   ·have hz : (f == 0) = false := by simpa using h0
    have hz2 : (f != 0) = true := by simpa using h0
    have HP : Hid (O = none) := hid (by
     rw [← HO.out, HRP.out]
     show (if x.fault = 0 ∧ Ar.txt x = s then some x else none) = none
     exact if_neg (fun h => h0 (HF.out.symm.trans h.1)))
    clear b0 b1 b2 b3 b4
    have r0 := HBX4.out.r0
    have r1 := HBX4.out.r1
    have r2 := HBX4.out.r2
    have r3 := HBX4.out.r3
    have r4 := HBX4.out.r4
    have q0 := HBX4.out.fz 0
    have q1 := HBX4.out.fz 1
    have q2 := HBX4.out.fz 2
    have q3 := HBX4.out.fz 3
    have q4 := HBX4.out.fz 4
    have hcl := HBX4.out.lt
    go_wp2_with fail
    refine bodyPost_ret (v := .tuple #[.agg #[.int .i64 0, .string ⟨#[]⟩, .string ⟨#[]⟩, .int .i64 0, .slice none 0 0], .bool false]) (by simp [results, Tryz.results47, go_sem, cell_set, r0, r1, r2, r3, r4, hcl]) rfl ?_
    show AskRrQ w _ _ (five W4 c (.int .i64 0) (.string ⟨#[]⟩) (.string ⟨#[]⟩) (.int .i64 0) (.slice none 0 0))
    rw [HP.out]
    exact ⟨five_below HB4.out c _ _ _ _ _ (Nat.le_of_eq HC.out.symm), rfl⟩
  ·have htl : ¬ t'.toList = [] := by rw [← htr, bts_toList]; exact hr
   have htl2 : (t'.toList != []) = true := by simpa using htl
   have HP : Hid (O = none) := hid (by
    rw [← HO.out]; unfold Ar.readR; rw [hp]
    cases r with
    | nil => exact absurd rfl hr
    | cons a b => rfl)
   clear hp hv hless b0 b1 b2 b3 b4
   have r0 := HBX3.out.r0
   have r1 := HBX3.out.r1
   have r2 := HBX3.out.r2
   have r3 := HBX3.out.r3
   have r4 := HBX3.out.r4
   have q0 := HBX3.out.fz 0
   have q1 := HBX3.out.fz 1
   have q2 := HBX3.out.fz 2
   have q3 := HBX3.out.fz 3
   have q4 := HBX3.out.fz 4
   have hcl := HBX3.out.lt
   go_wp2_with fail
   refine bodyPost_ret (v := .tuple #[.agg #[.int .i64 0, .string ⟨#[]⟩, .string ⟨#[]⟩, .int .i64 0, .slice none 0 0], .bool false]) (by simp [results, Tryz.results47, go_sem, cell_set, r0, r1, r2, r3, r4, hcl]) rfl ?_
   show AskRrQ w _ _ (five W3 c (.int .i64 0) (.string ⟨#[]⟩) (.string ⟨#[]⟩) (.int .i64 0) (.slice none 0 0))
   rw [HP.out]
   exact ⟨five_below HB3.out c _ _ _ _ _ (Nat.le_of_eq HC.out.symm), rfl⟩
end Go.Proofs.YtkemlckmfgacdaaGreatDoor
namespace Go.Proofs.YtkemlckmfgacdaaGreatDoor
set_option maxRecDepth 20000
set_option maxHeartbeats 64000000
open Go.ChangeShapes Go.WideShapes Go.ChangeAt Go.RowKit
set_option linter.unusedVariables false
set_option linter.unusedSimpArgs false
open Tp
def AskRdQ (w : World) (o : Option Ask) (e : Ending) (w' : World) : Prop := Below w.heap.size w w' ∧ match o with
 | some x => ∃ (x0 : Int) (x1 x2 : ByteArray) (x3 : Int) (xd : Option Addr) (xl xc : Nat), e = .returned (.tuple #[.agg #[.int .i64 x0, .string x1, .string x2, .int .i64 x3, .slice xd xl xc], .int .i64 0]) ∧ AskVP (fun b => w.heap.size ≤ b) w' x (.agg #[.int .i64 x0, .string x1, .string x2, .int .i64 x3, .slice xd xl xc])
 | none => e = .returned (.tuple #[zero5, .int .i64 3])
theorem askRead_any (s : Bs) (w : World) (hs : s.length ≤ 2000) (he : Env w) : Calls Tryz.prog 34 #[.string (bts s)] w (AskRdQ w (Ar.own (Ar.readP s) s)) := by
 obtain ⟨S, hS⟩ : ∃ S, bts s = S := ⟨_, rfl⟩
 obtain ⟨n, hn⟩ : ∃ n, S.size = n := ⟨_, rfl⟩
 have hns : s.length = n := by rw [← hn, ← hS, bts_size]
 have hn2 : ¬ (2000 : Int) < (n : Int) := by omega
 have HS := hid hS
 obtain ⟨c, hc⟩ : ∃ c, c = w.heap.size := ⟨_, rfl⟩
 obtain ⟨W0, hW0⟩ : ∃ W, W = w.alloc (.cells #[.int .i64 0, .string ⟨#[]⟩, .string ⟨#[]⟩, .int .i64 0, .slice none 0 0] 26) := ⟨_, rfl⟩
 obtain ⟨rb, hrb⟩ : ∃ rb, rb = W0.heap.size := ⟨_, rfl⟩
 obtain ⟨W1, hW1⟩ : ∃ W, W = W0.alloc (.cells #[.string S, .int .i64 60] 110) := ⟨_, rfl⟩
 have hb0 : Below w.heap.size w W0 := be0 hW0
 have hb1 : Below w.heap.size w W1 := by rw [hW1]; exact hb0.alloc hb0.size _
 have HBX1 : Hid (Box5 c W1) := hid (by rw [hW1]; exact (by rw [hW0]; exact Box5.top hc : Box5 c W0).but ((But.refl W0.heap.size W0).alloc _) (by rw [hW0, hc]; simp))
 have HCR : Hid (c ≠ rb ∧ c = w.heap.size ∧ w.heap.size < rb) := hid (by rw [hrb, hW0, hc]; simp)
 have HR1 : Hid (RdrW rb s 60 W1) := hid ⟨by rw [hW1, hrb]; simp, by rw [hW1, hS]; exact (cell_top _ _ _ _ _ hrb).trans rfl, by rw [hW1]; exact (cell_top _ _ _ _ _ hrb).trans rfl, by rw [hW1]; exact frozen_top _ _ _ _ _ hrb, by rw [hW1]; exact frozen_top _ _ _ _ _ hrb⟩
 have HB1 := hid hb1
 have HEV : Hid (∀ W, But rb W1 W → Env W) := hid (fun W h => he.below (hb1.trans (h.below (Nat.le_of_lt HCR.out.2.2) hb1.size)) lr)
 have HA := hid (ask_all rb 60 60 s W1 lr lr hs HEV.out HR1.out)
 obtain ⟨O, hO⟩ : ∃ O, Ar.own (Ar.readP s) s = O := ⟨_, rfl⟩
 have HO := hid hO
 rw [hO, hS]
 clear hb0 hb1 hS hns hs he hO
 go_enter Tryz.func34, Tryz.ntmps34
 go_upto_region 1 with fail
 rw [← hW0, ← hc]
 clear hW0 hc
 go_upto_region 4 with fail
 rw [← hW1, ← hrb]
 clear hW1 hrb hn
 go_wp2_with fail
 refine Calls.mono HA.out ?_
 rintro e W2 hq
 obtain ⟨hb2, bv, x0, x1, x2, x3, xd, xl, xc, rfl, hq2⟩ := hq.form
 have HQ2 := hid hq2
 have HBX2 := hid (HBX1.out.but hb2 HCR.out.1)
 have HB2 : Hid (Below w.heap.size w W2) := hid (HB1.out.trans (hb2.below (Nat.le_of_lt HCR.out.2.2) HB1.out.size))
 have HE2 := hid (HEV.out W2 hb2)
 clear hb2 hq hq2
 go_upto_region 5 with fail
 obtain ⟨W3, hW3⟩ : ∃ W, W = W2.alloc (.cells #[.int .i64 x0, .string x1, .string x2, .int .i64 x3, .slice xd xl xc] 26) := ⟨_, rfl⟩
 obtain ⟨d, hd⟩ : ∃ d, d = W2.heap.size := ⟨_, rfl⟩
 have hb3 : Below W2.heap.size W2 W3 := be0 hW3
 have HBX3 : Hid (Box5 c W3) := hid (HBX2.out.but (But.ofBelow (rb := rb) hb3 lr) HCR.out.1)
 have b0 : W3.cell? ⟨d, 0, none⟩ = some (.int .i64 x0) := by rw [hW3]; exact (cell_top _ _ _ _ _ hd).trans rfl
 have b1 : W3.cell? ⟨d, 1, none⟩ = some (.string x1) := by rw [hW3]; exact (cell_top _ _ _ _ _ hd).trans rfl
 have b2 : W3.cell? ⟨d, 2, none⟩ = some (.string x2) := by rw [hW3]; exact (cell_top _ _ _ _ _ hd).trans rfl
 have b3 : W3.cell? ⟨d, 3, none⟩ = some (.int .i64 x3) := by rw [hW3]; exact (cell_top _ _ _ _ _ hd).trans rfl
 have b4 : W3.cell? ⟨d, 4, none⟩ = some (.slice xd xl xc) := by rw [hW3]; exact (cell_top _ _ _ _ _ hd).trans rfl
 have hdl : d < W3.heap.size := by rw [hW3, hd]; simp
 have hdc : c < d := by rw [hd]; exact HBX2.out.lt
 have HB3 : Hid (Below w.heap.size w W3) := hid (HB2.out.trans (hb3.mono HB2.out.size))
 have HE3 := hid (HE2.out.below hb3 lr)
 have H23 := hid hb3
 rw [← hW3, ← hd]
 clear hW3 hd hb3
 have hq2 := HQ2.out
 cases hp : Ar.askP 60 60 s with
 | none =>
  rw [hp] at hq2
  obtain ⟨rfl, _, _, _, _⟩ := hq2
  have HP : Hid (O = none) := hid (by rw [← HO.out]; unfold Ar.readP; rw [hp]; rfl)
  clear hp b0 b1 b2 b3 b4
  have r0 := HBX3.out.r0
  have r1 := HBX3.out.r1
  have r2 := HBX3.out.r2
  have r3 := HBX3.out.r3
  have r4 := HBX3.out.r4
  have q0 := HBX3.out.fz 0
  have q1 := HBX3.out.fz 1
  have q2 := HBX3.out.fz 2
  have q3 := HBX3.out.fz 3
  have q4 := HBX3.out.fz 4
  have hcl := HBX3.out.lt
  go_wp2_with fail
  refine bodyPost_ret (v := .tuple #[.agg #[.int .i64 0, .string ⟨#[]⟩, .string ⟨#[]⟩, .int .i64 0, .slice none 0 0], .int .i64 3]) (by simp [results, Tryz.results34, go_sem, cell_set, r0, r1, r2, r3, r4, hcl]) rfl ?_
  show AskRdQ w _ _ (five W3 c (.int .i64 0) (.string ⟨#[]⟩) (.string ⟨#[]⟩) (.int .i64 0) (.slice none 0 0))
  rw [HP.out]
  exact ⟨five_below HB3.out c _ _ _ _ _ (Nat.le_of_eq HCR.out.2.1.symm), rfl⟩
 | some p =>
  obtain ⟨x, r, l⟩ := p
  rw [hp] at hq2
  obtain ⟨rfl, hv, _⟩ := hq2
  obtain ⟨f, hf⟩ : ∃ f, x.fault = f := ⟨_, rfl⟩
  obtain ⟨T, hT⟩ : ∃ T, askTxtOf x = T := ⟨_, rfl⟩
  have HF := hid hf
  have HT := hid hT
  have HRP : Hid (Ar.readP s = some x) := hid (by unfold Ar.readP; rw [hp]; rfl)
  have HV := hid hv
  have HSZ : Hid (x.size ≤ 1000000000) := hid (by have := (Ar.askP_less 60 60 s x r l hp).2.2; omega)
  have HV3 : Hid (AskV W3 x (.agg #[.int .i64 x0, .string x1, .string x2, .int .i64 x3, .slice xd xl xc])) := hid (AskV.below H23.out _ _ (AskVP.toV _ _ hv))
  have HTX := hid (askText_any x _ W3 HSZ.out HE3.out HV3.out)
  rw [hf, hT] at HTX
  clear hp hv hf hT
  go_wp2_with fail
  refine Calls.mono HTX.out ?_
  rintro e W4 ⟨rfl, hb4⟩
  have H34 := hid hb4
  replace b0 := (hb4.cell (p := ⟨d, 0, none⟩) hdl).trans b0
  replace b1 := (hb4.cell (p := ⟨d, 1, none⟩) hdl).trans b1
  replace b2 := (hb4.cell (p := ⟨d, 2, none⟩) hdl).trans b2
  replace b3 := (hb4.cell (p := ⟨d, 3, none⟩) hdl).trans b3
  replace b4 := (hb4.cell (p := ⟨d, 4, none⟩) hdl).trans b4
  have HB4 : Hid (Below w.heap.size w W4) := hid (HB3.out.trans (hb4.mono HB3.out.size))
  have HBX4 : Hid (Box5 c W4) := hid (HBX3.out.but (But.ofBelow (rb := rb) hb4 lr) HCR.out.1)
  clear hb4
  by_cases h0 : f = 0
  ·subst h0
   obtain ⟨tb, htb⟩ : ∃ b, (T.toList == S.toList) = b := ⟨_, rfl⟩
   have HTB : Hid (decide (Ar.txt x = s) = tb) := hid (by
    rw [← htb, ← HT.out, ← HS.out]; unfold askTxtOf; rw [if_pos HF.out, bts_toList, bts_toList]
    by_cases h : Ar.txt x = s
    ·rw [h]; simp
    ·simp [h])
   cases tb with
   | false =>
    have HP : Hid (O = none) := hid (by
     rw [← HO.out, HRP.out]
     show (if x.fault = 0 ∧ Ar.txt x = s then some x else none) = none
     exact if_neg (fun h => of_decide_eq_false HTB.out h.2))
    clear b0 b1 b2 b3 b4
    have r0 := HBX4.out.r0
    have r1 := HBX4.out.r1
    have r2 := HBX4.out.r2
    have r3 := HBX4.out.r3
    have r4 := HBX4.out.r4
    have q0 := HBX4.out.fz 0
    have q1 := HBX4.out.fz 1
    have q2 := HBX4.out.fz 2
    have q3 := HBX4.out.fz 3
    have q4 := HBX4.out.fz 4
    have hcl := HBX4.out.lt
    go_wp2_with fail
    refine bodyPost_ret (v := .tuple #[.agg #[.int .i64 0, .string ⟨#[]⟩, .string ⟨#[]⟩, .int .i64 0, .slice none 0 0], .int .i64 3]) (by simp [results, Tryz.results34, go_sem, cell_set, r0, r1, r2, r3, r4, hcl]) rfl ?_
    show AskRdQ w _ _ (five W4 c (.int .i64 0) (.string ⟨#[]⟩) (.string ⟨#[]⟩) (.int .i64 0) (.slice none 0 0))
    rw [HP.out]
    exact ⟨five_below HB4.out c _ _ _ _ _ (Nat.le_of_eq HCR.out.2.1.symm), rfl⟩
   | true =>
    have HP : Hid (O = some x) := hid (by
     rw [← HO.out, HRP.out]
     show (if x.fault = 0 ∧ Ar.txt x = s then some x else none) = some x
     exact if_pos ⟨HF.out, of_decide_eq_true HTB.out⟩)
    have r0 := HBX4.out.r0
    have r1 := HBX4.out.r1
    have r2 := HBX4.out.r2
    have r3 := HBX4.out.r3
    have r4 := HBX4.out.r4
    have q0 := HBX4.out.fz 0
    have q1 := HBX4.out.fz 1
    have q2 := HBX4.out.fz 2
    have q3 := HBX4.out.fz 3
    have q4 := HBX4.out.fz 4
    have hcl := HBX4.out.lt
    go_wp2_with fail
    refine bodyPost_ret (v := .tuple #[.agg #[.int .i64 x0, .string x1, .string x2, .int .i64 x3, .slice xd xl xc], .int .i64 0]) (by simp [results, Tryz.results34, go_sem, cell_set, r0, r1, r2, r3, r4, hcl]) rfl ?_
    show AskRdQ w _ _ (five W4 c (.int .i64 x0) (.string x1) (.string x2) (.int .i64 x3) (.slice xd xl xc))
    rw [HP.out]
    refine ⟨five_below HB4.out c _ _ _ _ _ (Nat.le_of_eq HCR.out.2.1.symm), x0, x1, x2, x3, xd, xl, xc, rfl, ?_⟩
    have hcW1 : c < W1.heap.size := HBX1.out.lt
    have hs4 : W2.heap.size ≤ W4.heap.size := Nat.le_trans H23.out.size H34.out.size
    refine AskVP.stays (fun b h => Nat.le_trans HB1.out.size h) (by rw [five_size]; exact hs4) (fun b h hb => ?_) _ _ HV.out
    rw [five_heap _ _ _ _ _ _ _ b (by have : W1.heap.size ≤ b := h; omega), H34.out.block b (Nat.lt_of_lt_of_le hb H23.out.size), H23.out.block b hb]
  ·have hz : (f == 0) = false := by simpa using h0
   have HP : Hid (O = none) := hid (by
    rw [← HO.out, HRP.out]
    show (if x.fault = 0 ∧ Ar.txt x = s then some x else none) = none
    exact if_neg (fun h => h0 (HF.out.symm.trans h.1)))
   clear b0 b1 b2 b3 b4
   have r0 := HBX4.out.r0
   have r1 := HBX4.out.r1
   have r2 := HBX4.out.r2
   have r3 := HBX4.out.r3
   have r4 := HBX4.out.r4
   have q0 := HBX4.out.fz 0
   have q1 := HBX4.out.fz 1
   have q2 := HBX4.out.fz 2
   have q3 := HBX4.out.fz 3
   have q4 := HBX4.out.fz 4
   have hcl := HBX4.out.lt
   go_wp2_with fail
   refine bodyPost_ret (v := .tuple #[.agg #[.int .i64 0, .string ⟨#[]⟩, .string ⟨#[]⟩, .int .i64 0, .slice none 0 0], .int .i64 3]) (by simp [results, Tryz.results34, go_sem, cell_set, r0, r1, r2, r3, r4, hcl]) rfl ?_
   show AskRdQ w _ _ (five W4 c (.int .i64 0) (.string ⟨#[]⟩) (.string ⟨#[]⟩) (.int .i64 0) (.slice none 0 0))
   rw [HP.out]
   exact ⟨five_below HB4.out c _ _ _ _ _ (Nat.le_of_eq HCR.out.2.1.symm), rfl⟩
theorem askRead_long (S : ByteArray) (w : World) (hs : 2000 < S.size) : Calls Tryz.prog 34 #[.string S] w fun e w' => e = .returned (.tuple #[zero5, .int .i64 2]) ∧ Below w.heap.size w w' := by
 obtain ⟨n, hn⟩ : ∃ n, S.size = n := ⟨_, rfl⟩
 have hn2 : (2000 : Int) < (n : Int) := by omega
 obtain ⟨c, hc⟩ : ∃ c, c = w.heap.size := ⟨_, rfl⟩
 obtain ⟨W0, hW0⟩ : ∃ W, W = w.alloc (.cells #[.int .i64 0, .string ⟨#[]⟩, .string ⟨#[]⟩, .int .i64 0, .slice none 0 0] 26) := ⟨_, rfl⟩
 have HB0 : Hid (Below w.heap.size w W0) := hid (be0 hW0)
 have HBX : Hid (Box5 c W0) := hid (by rw [hW0]; exact Box5.top hc)
 have HC : Hid (w.heap.size ≤ c) := hid (Nat.le_of_eq hc.symm)
 clear hs
 go_enter Tryz.func34, Tryz.ntmps34
 go_upto_region 1 with fail
 rw [← hW0, ← hc]
 clear hW0 hc
 have r0 := HBX.out.r0
 have r1 := HBX.out.r1
 have r2 := HBX.out.r2
 have r3 := HBX.out.r3
 have r4 := HBX.out.r4
 have q0 := HBX.out.fz 0
 have q1 := HBX.out.fz 1
 have q2 := HBX.out.fz 2
 have q3 := HBX.out.fz 3
 have q4 := HBX.out.fz 4
 have hcl := HBX.out.lt
 go_wp2_with fail
 refine bodyPost_ret (v := .tuple #[.agg #[.int .i64 0, .string ⟨#[]⟩, .string ⟨#[]⟩, .int .i64 0, .slice none 0 0], .int .i64 2]) (by simp [results, Tryz.results34, go_sem, cell_set, r0, r1, r2, r3, r4, hcl]) rfl ?_
 show _ ∧ Below w.heap.size w (five W0 c (.int .i64 0) (.string ⟨#[]⟩) (.string ⟨#[]⟩) (.int .i64 0) (.slice none 0 0))
 exact ⟨rfl, five_below HB0.out c _ _ _ _ _ HC.out⟩
end Go.Proofs.YtkemlckmfgacdaaGreatDoor
