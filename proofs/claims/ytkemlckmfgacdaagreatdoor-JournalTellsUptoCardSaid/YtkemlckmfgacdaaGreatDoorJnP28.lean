/- Contract: the document's reader of an ask: two asks in brackets. -/
import Derived.Test.YtkemlckmfgacdaaGreatDoorJnP26
import Derived.RegionTactic
import Derived.Deep.CutBlock
set_option linter.unusedVariables false
set_option linter.unusedSimpArgs false
namespace Go.Proofs.YtkemlckmfgacdaaGreatDoor
set_option maxRecDepth 20000
set_option maxHeartbeats 64000000
open Go.ChangeShapes Go.WideShapes Go.ChangeAt Go.RowKit
open Tp
def bothR (N : Nat) (o : Option (Ask × Bs)) : Option (Ask × Bs) := match o with | none => none | some (a, r) => fstR N a r
theorem askR_two' (N : Nat) (t : Bs) : Ar.askR (N + 1) (40 :: t) = bothR N (Ar.askR N t) := askR_two N t
theorem askAt_two (N : Nat) (t : Bs) (w : World) (hN : N < 61) (hs : t.length ≤ 1999) (hA : ∀ s' W, s'.length ≤ 2000 → Calls Tryz.prog 76 #[.string (bts s'), .int .i64 (N : Int)] W (AskAtQ W (Ar.askR N s'))) (hless : ∀ s' x r, Ar.askR N s' = some (x, r) → r.length ≤ s'.length) : Calls Tryz.prog 76 #[.string (bts (40 :: t)), .int .i64 ((N + 1 : Nat) : Int)] w (AskAtQ w (Ar.askR (N + 1) (40 :: t))) := by
 rw [askR_two']
 obtain ⟨S, hS⟩ : ∃ S, bts (40 :: t) = S := ⟨_, rfl⟩
 obtain ⟨n, hn⟩ : ∃ n, S.size = n := ⟨_, rfl⟩
 have hnl : n = t.length + 1 := by rw [← hn, ← hS, bts_size]; rfl
 have hsz : 0 < S.size := by rw [← hS, bts_size]; simp
 have hS0 : S[0]'hsz = 40 := lst_at (s := S) (by rw [← hS, lst_bts]; rfl) hsz
 have hSl : ¬ S.toList = [] := by rw [← hS, bts_toList]; simp
 have hSl2 : (S.toList == []) = false := by rw [← hS, bts_toList]; rfl
 have hext : S.extract 1 n = bts t := by
  rw [← hS, hnl]
  have := Nr.ext_drop (40 :: t) 1
  simpa using this
 have h1n : (1 : Int) ≤ (n : Int) := by omega
 obtain ⟨D, hD⟩ : ∃ D : Int, ((N + 1 : Nat) : Int) = D := ⟨_, rfl⟩
 have hD0 : ¬ D = 0 := by omega
 have hD1 : (D == 0) = false := by simpa using hD0
 have hDw : IntKind.i64.wrap (D - 1) = (N : Int) := by rw [← hD, show ((N + 1 : Nat) : Int) - 1 = (N : Int) by omega]; exact IntWalk.i64_in _ (by omega)
 obtain ⟨c, hc⟩ : ∃ c, c = w.heap.size := ⟨_, rfl⟩
 obtain ⟨W0, hW0⟩ : ∃ W, W = w.alloc (.cells #[.int .i64 0, .string ⟨#[]⟩, .string ⟨#[]⟩, .int .i64 0, .slice none 0 0] 26) := ⟨_, rfl⟩
 obtain ⟨z, hz⟩ : ∃ z, z = W0.heap.size := ⟨_, rfl⟩
 obtain ⟨W1, hW1⟩ : ∃ W, W = W0.alloc (.cells #[.int .i64 0, .string ⟨#[]⟩, .string ⟨#[]⟩, .int .i64 0, .slice none 0 0] 26) := ⟨_, rfl⟩
 have hb0 : Below w.heap.size w W0 := be0 hW0
 have HB : Hid (Below w.heap.size w W1) := hid (by rw [hW1]; exact hb0.alloc hb0.size _)
 have HBX : Hid (Box5 c W1) := hid (by rw [hW1]; exact (by rw [hW0]; exact Box5.top hc : Box5 c W0).but ((But.refl W0.heap.size W0).alloc _) (by rw [hW0, hc]; simp))
 have HBZ : Hid (Box5 z W1) := hid (by rw [hW1]; exact Box5.top hz)
 have HC : Hid (w.heap.size ≤ c) := hid (Nat.le_of_eq hc.symm)
 have HAA := hid hA
 have HLESS := hid hless
 have HSL := hid hs
 have HA := hid (hA t W1 (by omega))
 obtain ⟨O1, hO1⟩ : ∃ O, Ar.askR N t = O := ⟨_, rfl⟩
 have HO1 := hid hO1
 rw [hO1] at HA
 rw [hO1]
 obtain ⟨O, hO⟩ : ∃ O : Option (Ask × Bs), O = bothR N O1 := ⟨_, rfl⟩
 have HO := hid hO
 rw [← hO]
 obtain ⟨T, hT⟩ : ∃ T, bts t = T := ⟨_, rfl⟩
 rw [hT] at HA hext
 obtain ⟨E, hE⟩ : ∃ E : Int, (N : Int) = E := ⟨_, rfl⟩
 rw [hE] at HA HAA hDw
 rw [hS, hD]
 clear hb0 hS hs hnl hT hD hN hE hO1 hA hO hless
 go_enter Tryz.func76, Tryz.ntmps76
 go_upto_region 1 with fail
 rw [← hW0, ← hc]
 clear hW0 hc
 go_upto_region 2 with fail
 rw [← hW1, ← hz]
 clear hW1 hz
 have r0 := HBX.out.r0
 have r1 := HBX.out.r1
 have r2 := HBX.out.r2
 have r3 := HBX.out.r3
 have r4 := HBX.out.r4
 have q0 := HBX.out.fz 0
 have q1 := HBX.out.fz 1
 have q2 := HBX.out.fz 2
 have q3 := HBX.out.fz 3
 have q4 := HBX.out.fz 4
 have z0 := HBZ.out.r0
 have z1 := HBZ.out.r1
 have z2 := HBZ.out.r2
 have z3 := HBZ.out.r3
 have z4 := HBZ.out.r4
 have hcl := HBX.out.lt
 go_wp2_with fail
 refine Calls.mono HA.out ?_
 rintro e W2 hq
 obtain ⟨hb2, bv, x0, x1, x2, x3, xd, xl, xc, t1, rfl, hq2⟩ := hq.form
 have HQ2 := hid hq2
 have HB2 := hid hb2
 have HBXW2 : Hid (Box5 c W2) := hid (HBX.out.but (But.ofBelow (rb := W1.heap.size) hb2 lr) (Nat.ne_of_lt HBX.out.lt))
 have HBZW2 : Hid (Box5 z W2) := hid (HBZ.out.but (But.ofBelow (rb := W1.heap.size) hb2 lr) (Nat.ne_of_lt HBZ.out.lt))
 clear hq hq2 hb2
 clear r0 r1 r2 r3 r4 q0 q1 q2 q3 q4 hcl z0 z1 z2 z3 z4
 go_upto_region 13 with fail
 obtain ⟨W3, hW3⟩ : ∃ W, W = W2.alloc (.cells #[.int .i64 x0, .string x1, .string x2, .int .i64 x3, .slice xd xl xc] 26) := ⟨_, rfl⟩
 obtain ⟨d, hd⟩ : ∃ d, d = W2.heap.size := ⟨_, rfl⟩
 have hbW3 : Below W2.heap.size W2 W3 := be0 hW3
 have HBXW3 : Hid (Box5 c W3) := hid (HBXW2.out.but (But.ofBelow (rb := d) hbW3 lr) (Nat.ne_of_lt (by rw [hd]; exact HBXW2.out.lt)))
 have bd0 : W3.cell? ⟨d, 0, none⟩ = some (.int .i64 x0) := by rw [hW3]; exact (cell_top _ _ _ _ _ hd).trans rfl
 have bd1 : W3.cell? ⟨d, 1, none⟩ = some (.string x1) := by rw [hW3]; exact (cell_top _ _ _ _ _ hd).trans rfl
 have bd2 : W3.cell? ⟨d, 2, none⟩ = some (.string x2) := by rw [hW3]; exact (cell_top _ _ _ _ _ hd).trans rfl
 have bd3 : W3.cell? ⟨d, 3, none⟩ = some (.int .i64 x3) := by rw [hW3]; exact (cell_top _ _ _ _ _ hd).trans rfl
 have bd4 : W3.cell? ⟨d, 4, none⟩ = some (.slice xd xl xc) := by rw [hW3]; exact (cell_top _ _ _ _ _ hd).trans rfl
 have hdld : d < W3.heap.size := by rw [hW3, hd]; simp
 rw [← hW3, ← hd]
 have HW3 := hid hW3
 have HDd := hid hd
 have HBW3 := hid hbW3
 clear hW3 hd hbW3
 have H13 : Hid (Below W1.heap.size W1 W3) := hid (HB2.out.trans (HBW3.out.mono HB2.out.size))
 have HBZW3 : Hid (Box5 z W3) := hid (HBZW2.out.but (But.ofBelow (rb := W2.heap.size) HBW3.out lr) (Nat.ne_of_lt HBZW2.out.lt))
 have HBw3 : Hid (Below w.heap.size w W3) := hid (HB.out.trans (H13.out.mono HB.out.size))
 obtain ⟨m, hm⟩ : ∃ m, t1.size = m := ⟨_, rfl⟩
 have hq2 := HQ2.out
 cases O1 with
 | none =>
  obtain rfl : bv = false := hq2
  have HP : Hid (O = none) := hid HO.out
  have r0 := HBXW3.out.r0
  have r1 := HBXW3.out.r1
  have r2 := HBXW3.out.r2
  have r3 := HBXW3.out.r3
  have r4 := HBXW3.out.r4
  have q0 := HBXW3.out.fz 0
  have q1 := HBXW3.out.fz 1
  have q2 := HBXW3.out.fz 2
  have q3 := HBXW3.out.fz 3
  have q4 := HBXW3.out.fz 4
  have hcl := HBXW3.out.lt
  have hcl1 : c < W3.heap.size + 1 := Nat.lt_succ_of_lt hcl
  have z0 := HBZW3.out.r0
  have z1 := HBZW3.out.r1
  have z2 := HBZW3.out.r2
  have z3 := HBZW3.out.r3
  have z4 := HBZW3.out.r4
  have zcl := HBZW3.out.lt
  go_wp2_with fail
  refine bodyPost_ret (v := .tuple #[.agg #[.int .i64 0, .string ⟨#[]⟩, .string ⟨#[]⟩, .int .i64 0, .slice none 0 0], .string ⟨#[]⟩, .bool false]) (by simp [results, Tryz.results76, go_sem, cell_set, r0, r1, r2, r3, r4, hcl, hcl1]) rfl ?_
  show AskAtQ w O _ (five W3 c (.int .i64 0) (.string ⟨#[]⟩) (.string ⟨#[]⟩) (.int .i64 0) (.slice none 0 0))
  rw [HP.out]
  exact AskAtQ.mk' (five_below HBw3.out c _ _ _ _ _ HC.out) rfl
 | some p =>
  obtain ⟨ya, r⟩ := p
  obtain ⟨rfl, htr, hva⟩ := hq2
  have HRL : Hid (r.length ≤ 2000) := hid (by have := HLESS.out t ya r HO1.out; have := HSL.out; omega)
  have HOF : Hid (O = fstR N ya r) := hid HO.out
  have HVA : Hid (AskVP (fun b => W1.heap.size ≤ b ∧ b < W2.heap.size) W3 ya (.agg #[.int .i64 x0, .string x1, .string x2, .int .i64 x3, .slice xd xl xc])) := hid (AskVP.both hva HBW3.out.size (fun b _ hb => HBW3.out.block b hb))
  have HTR := hid htr
  clear htr hva
  by_cases hyes : (∃ r', r = 124 :: r') ∨ (∃ r', r = 38 :: r')
  ·obtain ⟨kk, ch, r', hrr, hOk, hch⟩ : ∃ (kk : Int) (ch : UInt8) (r' : Bs), r = ch :: r' ∧ O = secR kk ya (Ar.askR N r') ∧ ((kk = 6 ∧ ch = 124) ∨ (kk = 5 ∧ ch = 38)) := by
    rcases hyes with ⟨r', h⟩ | ⟨r', h⟩
    ·exact ⟨6, 124, r', h, by rw [HOF.out, h]; rfl, .inl ⟨rfl, rfl⟩⟩
    ·exact ⟨5, 38, r', h, by rw [HOF.out, h]; rfl, .inr ⟨rfl, rfl⟩⟩
   have HOK := hid hOk
   have HRL2 : Hid (r'.length ≤ 2000) := hid (by have := HRL.out; rw [hrr] at this; simp only [List.length_cons] at this; omega)
   obtain ⟨T2, hT2⟩ : ∃ T, bts r' = T := ⟨_, rfl⟩
   have hm1 : (1 : Int) ≤ (m : Int) := by
    have : m = r'.length + 1 := by rw [← hm, ← HTR.out, hrr, bts_size]; rfl
    omega
   have hx1 : t1.extract 1 m = T2 := by
    have e : m = r'.length + 1 := by rw [← hm, ← HTR.out, hrr, bts_size]; rfl
    rw [← hT2, ← HTR.out, hrr, e]
    have := Nr.ext_drop (ch :: r') 1
    simpa using this
   have htz : 0 < t1.size := by omega
   have ht0 : t1[0]'htz = ch := lst_at (s := t1) (by rw [← HTR.out, lst_bts, hrr]; rfl) htz
   have htl : ¬ t1.toList = [] := by rw [← HTR.out, hrr, bts_toList]; simp
   have htl2 : (t1.toList == []) = false := by rw [← HTR.out, hrr, bts_toList]; rfl
   have HA2 := hid (HAA.out r' W3 HRL2.out)
   rw [hT2] at HA2
   obtain ⟨O2, hO2⟩ : ∃ O, Ar.askR N r' = O := ⟨_, rfl⟩
   have HO2 := hid hO2
   rw [hO2] at HA2
   have HOK2 : Hid (O = secR kk ya O2) := hid (by rw [HOK.out, hO2])
   clear hOk hyes hT2 hrr hO2
   rcases hch with ⟨rfl, rfl⟩ | ⟨rfl, rfl⟩
   ·go_wp2_with fail
    refine Calls.mono HA2.out ?_
    rintro e W4 hq
    obtain ⟨hb4, bv2, y0, y1, y2, y3, yd, yl, yc, t2, rfl, hq4⟩ := hq.form
    have HQ4 := hid hq4
    have HB4 := hid hb4
    have HBXW4 : Hid (Box5 c W4) := hid (HBXW3.out.but (But.ofBelow (rb := W3.heap.size) hb4 lr) (Nat.ne_of_lt HBXW3.out.lt))
    have HBZW4 : Hid (Box5 z W4) := hid (HBZW3.out.but (But.ofBelow (rb := W3.heap.size) hb4 lr) (Nat.ne_of_lt HBZW3.out.lt))
    clear hq hq4 hb4
    go_upto_region 19 with fail
    obtain ⟨W5, hW5⟩ : ∃ W, W = W4.alloc (.cells #[.int .i64 y0, .string y1, .string y2, .int .i64 y3, .slice yd yl yc] 26) := ⟨_, rfl⟩
    obtain ⟨e2, hd⟩ : ∃ d, d = W4.heap.size := ⟨_, rfl⟩
    have hbW5 : Below W4.heap.size W4 W5 := be0 hW5
    have HBXW5 : Hid (Box5 c W5) := hid (HBXW4.out.but (But.ofBelow (rb := e2) hbW5 lr) (Nat.ne_of_lt (by rw [hd]; exact HBXW4.out.lt)))
    have be20 : W5.cell? ⟨e2, 0, none⟩ = some (.int .i64 y0) := by rw [hW5]; exact (cell_top _ _ _ _ _ hd).trans rfl
    have be21 : W5.cell? ⟨e2, 1, none⟩ = some (.string y1) := by rw [hW5]; exact (cell_top _ _ _ _ _ hd).trans rfl
    have be22 : W5.cell? ⟨e2, 2, none⟩ = some (.string y2) := by rw [hW5]; exact (cell_top _ _ _ _ _ hd).trans rfl
    have be23 : W5.cell? ⟨e2, 3, none⟩ = some (.int .i64 y3) := by rw [hW5]; exact (cell_top _ _ _ _ _ hd).trans rfl
    have be24 : W5.cell? ⟨e2, 4, none⟩ = some (.slice yd yl yc) := by rw [hW5]; exact (cell_top _ _ _ _ _ hd).trans rfl
    have hdle2 : e2 < W5.heap.size := by rw [hW5, hd]; simp
    rw [← hW5, ← hd]
    have HW5 := hid hW5
    have HDe2 := hid hd
    have HBW5 := hid hbW5
    clear hW5 hd hbW5
    have HBZW5 : Hid (Box5 z W5) := hid (HBZW4.out.but (But.ofBelow (rb := W4.heap.size) HBW5.out lr) (Nat.ne_of_lt HBZW4.out.lt))
    have HBw5 : Hid (Below w.heap.size w W5) := hid (HBw3.out.trans ((HB4.out.trans (HBW5.out.mono HB4.out.size)).mono HBw3.out.size))
    obtain ⟨m2, hm2⟩ : ∃ m, t2.size = m := ⟨_, rfl⟩
    have hq4 := HQ4.out
    cases O2 with
    | none =>
     obtain rfl : bv2 = false := hq4
     have HP : Hid (O = none) := hid HOK2.out
     have r0 := HBXW5.out.r0
     have r1 := HBXW5.out.r1
     have r2 := HBXW5.out.r2
     have r3 := HBXW5.out.r3
     have r4 := HBXW5.out.r4
     have q0 := HBXW5.out.fz 0
     have q1 := HBXW5.out.fz 1
     have q2 := HBXW5.out.fz 2
     have q3 := HBXW5.out.fz 3
     have q4 := HBXW5.out.fz 4
     have hcl := HBXW5.out.lt
     have hcl1 : c < W5.heap.size + 1 := Nat.lt_succ_of_lt hcl
     have z0 := HBZW5.out.r0
     have z1 := HBZW5.out.r1
     have z2 := HBZW5.out.r2
     have z3 := HBZW5.out.r3
     have z4 := HBZW5.out.r4
     have zcl := HBZW5.out.lt
     go_wp2_with fail
     refine bodyPost_ret (v := .tuple #[.agg #[.int .i64 0, .string ⟨#[]⟩, .string ⟨#[]⟩, .int .i64 0, .slice none 0 0], .string ⟨#[]⟩, .bool false]) (by simp [results, Tryz.results76, go_sem, cell_set, r0, r1, r2, r3, r4, hcl, hcl1]) rfl ?_
     show AskAtQ w O _ (five W5 c (.int .i64 0) (.string ⟨#[]⟩) (.string ⟨#[]⟩) (.int .i64 0) (.slice none 0 0))
     rw [HP.out]
     exact AskAtQ.mk' (five_below HBw5.out c _ _ _ _ _ HC.out) rfl
    | some p2 =>
     obtain ⟨yb, r2⟩ := p2
     obtain ⟨rfl, htr2, hvb⟩ := hq4
     have HVB : Hid (AskVP (fun b => W3.heap.size ≤ b ∧ b < W4.heap.size) W5 yb (.agg #[.int .i64 y0, .string y1, .string y2, .int .i64 y3, .slice yd yl yc])) := hid (AskVP.both hvb HBW5.out.size (fun b _ hb => HBW5.out.block b hb))
     have HTR2 := hid htr2
     clear htr2 hvb
     by_cases hyes2 : ∃ r3, r2 = 41 :: r3
     ·obtain ⟨r3, hrr⟩ := hyes2
      have HOK3 : Hid (O = some (.mk 6 [] [] 0 [ya, yb], r3)) := hid (by rw [HOK2.out, hrr]; rfl)
      obtain ⟨T3, hT3⟩ : ∃ T, bts r3 = T := ⟨_, rfl⟩
      have HT3 := hid hT3
      have hm21 : (1 : Int) ≤ (m2 : Int) := by
       have : m2 = r3.length + 1 := by rw [← hm2, ← HTR2.out, hrr, bts_size]; rfl
       omega
      have hx2 : t2.extract 1 m2 = T3 := by
       have e : m2 = r3.length + 1 := by rw [← hm2, ← HTR2.out, hrr, bts_size]; rfl
       rw [← hT3, ← HTR2.out, hrr, e]
       have := Nr.ext_drop (41 :: r3) 1
       simpa using this
      have h2z : 0 < t2.size := by omega
      have h20 : t2[0]'h2z = 41 := lst_at (s := t2) (by rw [← HTR2.out, lst_bts, hrr]; rfl) h2z
      have h2l : ¬ t2.toList = [] := by rw [← HTR2.out, hrr, bts_toList]; simp
      have h2l2 : (t2.toList == []) = false := by rw [← HTR2.out, hrr, bts_toList]; rfl
      clear hrr hT3
      go_upto_region 21 with fail
      obtain ⟨Wd, hWd⟩ : ∃ W, W5.drew = W := ⟨_, rfl⟩
      obtain ⟨W6, hW6⟩ : ∃ W, Wd.alloc (.cells #[.int .i64 x0, .string x1, .string x2, .int .i64 x3, .slice xd xl xc, .int .i64 y0, .string y1, .string y2, .int .i64 y3, .slice yd yl yc] 26) = W := ⟨_, rfl⟩
      have hUk : UpK c c W5 W6 := by rw [← hW6, ← hWd]; exact (UpK.refl.drew).alloc _
      have HUK := hid hUk
      have hbd : Below W5.heap.size W5 Wd := by rw [← hWd]; exact (Below.refl _ _).drew
      have hb6 : Below W5.heap.size W5 W6 := by rw [← hW6]; exact hbd.alloc hbd.size _
      have HB6 := hid hb6
      have HBX6 : Hid (Box5 c W6) := hid (HBXW5.out.but (But.ofBelow (rb := W5.heap.size) hb6 lr) (Nat.ne_of_lt HBXW5.out.lt))
      have HSD : Hid (Wd.heap.size = W5.heap.size) := hid (by rw [← hWd]; rfl)
      have HGL : Hid (W5.heap.size < W6.heap.size) := hid (by rw [← hW6]; have := HSD.out; simp; omega)
      have HCL : Hid (∀ i, W6.cell? ⟨W5.heap.size, i, none⟩ = (#[.int .i64 x0, .string x1, .string x2, .int .i64 x3, .slice xd xl xc, .int .i64 y0, .string y1, .string y2, .int .i64 y3, .slice yd yl yc] : Array Value)[i]?) := hid (fun i => by rw [← hW6]; exact cell_top _ _ _ _ _ HSD.out.symm)
      have eA : ∀ i, Wd.cell? ⟨d, i, none⟩ = W5.cell? ⟨d, i, none⟩ := fun i => hbd.cell (p := ⟨d, i, none⟩) (Nat.lt_of_lt_of_le hdld (Nat.le_trans HB4.out.size HBW5.out.size))
      have eA2 : ∀ i, W5.cell? ⟨d, i, none⟩ = W3.cell? ⟨d, i, none⟩ := fun i => (HBW5.out.cell (p := ⟨d, i, none⟩) (Nat.lt_of_lt_of_le hdld HB4.out.size)).trans (HB4.out.cell (p := ⟨d, i, none⟩) hdld)
      have eE : ∀ i, Wd.cell? ⟨e2, i, none⟩ = W5.cell? ⟨e2, i, none⟩ := fun i => hbd.cell (p := ⟨e2, i, none⟩) hdle2
      have g0 := (eA 0).trans ((eA2 0).trans bd0)
      have g1 := (eA 1).trans ((eA2 1).trans bd1)
      have g2 := (eA 2).trans ((eA2 2).trans bd2)
      have g3 := (eA 3).trans ((eA2 3).trans bd3)
      have g4 := (eA 4).trans ((eA2 4).trans bd4)
      have f0 := (eE 0).trans be20
      have f1 := (eE 1).trans be21
      have f2 := (eE 2).trans be22
      have f3 := (eE 3).trans be23
      have f4 := (eE 4).trans be24
      have HSS : Hid (Wd.heap.size = W5.heap.size) := HSD
      clear eA eA2 eE hUk hb6 hbd bd0 bd1 bd2 bd3 bd4 be20 be21 be22 be23 be24
      have r0 := HBX6.out.r0
      have r1 := HBX6.out.r1
      have r2 := HBX6.out.r2
      have r3 := HBX6.out.r3
      have r4 := HBX6.out.r4
      have q0 := HBX6.out.fz 0
      have q1 := HBX6.out.fz 1
      have q2 := HBX6.out.fz 2
      have q3 := HBX6.out.fz 3
      have q4 := HBX6.out.fz 4
      have hcl := HBX6.out.lt
      have hcl1 : c < W6.heap.size + 1 := Nat.lt_succ_of_lt hcl
      go_region
      go_wp2_with fail
      refine bodyPost_ret (v := .tuple #[.agg #[.int .i64 6, .string ⟨#[]⟩, .string ⟨#[]⟩, .int .i64 0, .slice (some ⟨Wd.heap.size, 0, none⟩) 2 2], .string T3, .bool true]) (by simp [results, Tryz.results76, go_sem, cell_set, r0, r1, r2, r3, r4, hcl, hcl1]) rfl ?_
      show AskAtQ w O _ (five W6 c (.int .i64 6) (.string ⟨#[]⟩) (.string ⟨#[]⟩) (.int .i64 0) (.slice (some ⟨Wd.heap.size, 0, none⟩) 2 2))
      rw [HOK3.out]
      refine AskAtQ.mk' (five_below (HBw5.out.trans (HB6.out.mono HBw5.out.size)) c _ _ _ _ _ HC.out) ?_
      refine ⟨rfl, HT3.out, ?_⟩
      rw [HSD.out]
      have hW13 := H13.out.size
      have hcW1 := HBX.out.lt
      have hVA5 : AskVP (fun b => W1.heap.size ≤ b ∧ b < W2.heap.size) W5 ya (.agg #[.int .i64 x0, .string x1, .string x2, .int .i64 x3, .slice xd xl xc]) := AskVP.stays (fun b h => h) (Nat.le_trans HB4.out.size HBW5.out.size) (fun b h hb => (HBW5.out.block b (Nat.lt_of_lt_of_le hb HB4.out.size)).trans (HB4.out.block b hb)) _ _ HVA.out
      exact tree_two (rb := c) HUK.out HGL.out HBw5.out.size (Nat.ne_of_gt HBXW5.out.lt) HCL.out hVA5 (fun b h => ⟨Nat.le_trans HB.out.size h.1, by omega, by omega⟩) HVB.out (fun b h => ⟨Nat.le_trans HB.out.size (Nat.le_trans hW13 h.1), by omega, by omega⟩) _ _ _ _ _
     ·have HN2 : Hid (∀ r3, r2 ≠ 41 :: r3) := hid (fun r3 e => hyes2 ⟨r3, e⟩)
      have HP : Hid (O = none) := hid (by rw [HOK2.out, secR_no HN2.out])
      clear hyes2
      cases r2 with
      | nil =>
       have h2l : t2.toList = [] := by rw [← HTR2.out, bts_toList]
       have h2l2 : (t2.toList == []) = true := by rw [h2l]; rfl
       have r0 := HBXW5.out.r0
       have r1 := HBXW5.out.r1
       have r2 := HBXW5.out.r2
       have r3 := HBXW5.out.r3
       have r4 := HBXW5.out.r4
       have q0 := HBXW5.out.fz 0
       have q1 := HBXW5.out.fz 1
       have q2 := HBXW5.out.fz 2
       have q3 := HBXW5.out.fz 3
       have q4 := HBXW5.out.fz 4
       have hcl := HBXW5.out.lt
       have hcl1 : c < W5.heap.size + 1 := Nat.lt_succ_of_lt hcl
       have z0 := HBZW5.out.r0
       have z1 := HBZW5.out.r1
       have z2 := HBZW5.out.r2
       have z3 := HBZW5.out.r3
       have z4 := HBZW5.out.r4
       have zcl := HBZW5.out.lt
       go_wp2_with fail
       refine bodyPost_ret (v := .tuple #[.agg #[.int .i64 0, .string ⟨#[]⟩, .string ⟨#[]⟩, .int .i64 0, .slice none 0 0], .string ⟨#[]⟩, .bool false]) (by simp [results, Tryz.results76, go_sem, cell_set, r0, r1, r2, r3, r4, hcl, hcl1]) rfl ?_
       show AskAtQ w O _ (five W5 c (.int .i64 0) (.string ⟨#[]⟩) (.string ⟨#[]⟩) (.int .i64 0) (.slice none 0 0))
       rw [HP.out]
       exact AskAtQ.mk' (five_below HBw5.out c _ _ _ _ _ HC.out) rfl
      | cons c1 r3 =>
       have h2z : 0 < t2.size := by rw [← HTR2.out, bts_size]; simp
       have h20 : t2[0]'h2z = c1 := lst_at (s := t2) (by rw [← HTR2.out, lst_bts]; rfl) h2z
       have h2l : ¬ t2.toList = [] := by rw [← HTR2.out, bts_toList]; simp
       have h2l2 : (t2.toList == []) = false := by rw [← HTR2.out, bts_toList]; rfl
       have g41 : ((c1.toNat : Int) == 41) = false := by simp only [beq_eq_false_iff_ne]; exact fun h => HN2.out r3 (by rw [show c1 = 41 from UInt8.toNat_inj.1 (by simpa using (by exact_mod_cast h : c1.toNat = 41))])
       have r0 := HBXW5.out.r0
       have r1 := HBXW5.out.r1
       have r2 := HBXW5.out.r2
       have r3 := HBXW5.out.r3
       have r4 := HBXW5.out.r4
       have q0 := HBXW5.out.fz 0
       have q1 := HBXW5.out.fz 1
       have q2 := HBXW5.out.fz 2
       have q3 := HBXW5.out.fz 3
       have q4 := HBXW5.out.fz 4
       have hcl := HBXW5.out.lt
       have hcl1 : c < W5.heap.size + 1 := Nat.lt_succ_of_lt hcl
       have z0 := HBZW5.out.r0
       have z1 := HBZW5.out.r1
       have z2 := HBZW5.out.r2
       have z3 := HBZW5.out.r3
       have z4 := HBZW5.out.r4
       have zcl := HBZW5.out.lt
       go_wp2_with fail
       refine bodyPost_ret (v := .tuple #[.agg #[.int .i64 0, .string ⟨#[]⟩, .string ⟨#[]⟩, .int .i64 0, .slice none 0 0], .string ⟨#[]⟩, .bool false]) (by simp [results, Tryz.results76, go_sem, cell_set, r0, r1, r2, r3, r4, hcl, hcl1]) rfl ?_
       show AskAtQ w O _ (five W5 c (.int .i64 0) (.string ⟨#[]⟩) (.string ⟨#[]⟩) (.int .i64 0) (.slice none 0 0))
       rw [HP.out]
       exact AskAtQ.mk' (five_below HBw5.out c _ _ _ _ _ HC.out) rfl
   ·go_wp2_with fail
    refine Calls.mono HA2.out ?_
    rintro e W4 hq
    obtain ⟨hb4, bv2, y0, y1, y2, y3, yd, yl, yc, t2, rfl, hq4⟩ := hq.form
    have HQ4 := hid hq4
    have HB4 := hid hb4
    have HBXW4 : Hid (Box5 c W4) := hid (HBXW3.out.but (But.ofBelow (rb := W3.heap.size) hb4 lr) (Nat.ne_of_lt HBXW3.out.lt))
    have HBZW4 : Hid (Box5 z W4) := hid (HBZW3.out.but (But.ofBelow (rb := W3.heap.size) hb4 lr) (Nat.ne_of_lt HBZW3.out.lt))
    clear hq hq4 hb4
    go_upto_region 19 with fail
    obtain ⟨W5, hW5⟩ : ∃ W, W = W4.alloc (.cells #[.int .i64 y0, .string y1, .string y2, .int .i64 y3, .slice yd yl yc] 26) := ⟨_, rfl⟩
    obtain ⟨e2, hd⟩ : ∃ d, d = W4.heap.size := ⟨_, rfl⟩
    have hbW5 : Below W4.heap.size W4 W5 := be0 hW5
    have HBXW5 : Hid (Box5 c W5) := hid (HBXW4.out.but (But.ofBelow (rb := e2) hbW5 lr) (Nat.ne_of_lt (by rw [hd]; exact HBXW4.out.lt)))
    have be20 : W5.cell? ⟨e2, 0, none⟩ = some (.int .i64 y0) := by rw [hW5]; exact (cell_top _ _ _ _ _ hd).trans rfl
    have be21 : W5.cell? ⟨e2, 1, none⟩ = some (.string y1) := by rw [hW5]; exact (cell_top _ _ _ _ _ hd).trans rfl
    have be22 : W5.cell? ⟨e2, 2, none⟩ = some (.string y2) := by rw [hW5]; exact (cell_top _ _ _ _ _ hd).trans rfl
    have be23 : W5.cell? ⟨e2, 3, none⟩ = some (.int .i64 y3) := by rw [hW5]; exact (cell_top _ _ _ _ _ hd).trans rfl
    have be24 : W5.cell? ⟨e2, 4, none⟩ = some (.slice yd yl yc) := by rw [hW5]; exact (cell_top _ _ _ _ _ hd).trans rfl
    have hdle2 : e2 < W5.heap.size := by rw [hW5, hd]; simp
    rw [← hW5, ← hd]
    have HW5 := hid hW5
    have HDe2 := hid hd
    have HBW5 := hid hbW5
    clear hW5 hd hbW5
    have HBZW5 : Hid (Box5 z W5) := hid (HBZW4.out.but (But.ofBelow (rb := W4.heap.size) HBW5.out lr) (Nat.ne_of_lt HBZW4.out.lt))
    have HBw5 : Hid (Below w.heap.size w W5) := hid (HBw3.out.trans ((HB4.out.trans (HBW5.out.mono HB4.out.size)).mono HBw3.out.size))
    obtain ⟨m2, hm2⟩ : ∃ m, t2.size = m := ⟨_, rfl⟩
    have hq4 := HQ4.out
    cases O2 with
    | none =>
     obtain rfl : bv2 = false := hq4
     have HP : Hid (O = none) := hid HOK2.out
     have r0 := HBXW5.out.r0
     have r1 := HBXW5.out.r1
     have r2 := HBXW5.out.r2
     have r3 := HBXW5.out.r3
     have r4 := HBXW5.out.r4
     have q0 := HBXW5.out.fz 0
     have q1 := HBXW5.out.fz 1
     have q2 := HBXW5.out.fz 2
     have q3 := HBXW5.out.fz 3
     have q4 := HBXW5.out.fz 4
     have hcl := HBXW5.out.lt
     have hcl1 : c < W5.heap.size + 1 := Nat.lt_succ_of_lt hcl
     have z0 := HBZW5.out.r0
     have z1 := HBZW5.out.r1
     have z2 := HBZW5.out.r2
     have z3 := HBZW5.out.r3
     have z4 := HBZW5.out.r4
     have zcl := HBZW5.out.lt
     go_wp2_with fail
     refine bodyPost_ret (v := .tuple #[.agg #[.int .i64 0, .string ⟨#[]⟩, .string ⟨#[]⟩, .int .i64 0, .slice none 0 0], .string ⟨#[]⟩, .bool false]) (by simp [results, Tryz.results76, go_sem, cell_set, r0, r1, r2, r3, r4, hcl, hcl1]) rfl ?_
     show AskAtQ w O _ (five W5 c (.int .i64 0) (.string ⟨#[]⟩) (.string ⟨#[]⟩) (.int .i64 0) (.slice none 0 0))
     rw [HP.out]
     exact AskAtQ.mk' (five_below HBw5.out c _ _ _ _ _ HC.out) rfl
    | some p2 =>
     obtain ⟨yb, r2⟩ := p2
     obtain ⟨rfl, htr2, hvb⟩ := hq4
     have HVB : Hid (AskVP (fun b => W3.heap.size ≤ b ∧ b < W4.heap.size) W5 yb (.agg #[.int .i64 y0, .string y1, .string y2, .int .i64 y3, .slice yd yl yc])) := hid (AskVP.both hvb HBW5.out.size (fun b _ hb => HBW5.out.block b hb))
     have HTR2 := hid htr2
     clear htr2 hvb
     by_cases hyes2 : ∃ r3, r2 = 41 :: r3
     ·obtain ⟨r3, hrr⟩ := hyes2
      have HOK3 : Hid (O = some (.mk 5 [] [] 0 [ya, yb], r3)) := hid (by rw [HOK2.out, hrr]; rfl)
      obtain ⟨T3, hT3⟩ : ∃ T, bts r3 = T := ⟨_, rfl⟩
      have HT3 := hid hT3
      have hm21 : (1 : Int) ≤ (m2 : Int) := by
       have : m2 = r3.length + 1 := by rw [← hm2, ← HTR2.out, hrr, bts_size]; rfl
       omega
      have hx2 : t2.extract 1 m2 = T3 := by
       have e : m2 = r3.length + 1 := by rw [← hm2, ← HTR2.out, hrr, bts_size]; rfl
       rw [← hT3, ← HTR2.out, hrr, e]
       have := Nr.ext_drop (41 :: r3) 1
       simpa using this
      have h2z : 0 < t2.size := by omega
      have h20 : t2[0]'h2z = 41 := lst_at (s := t2) (by rw [← HTR2.out, lst_bts, hrr]; rfl) h2z
      have h2l : ¬ t2.toList = [] := by rw [← HTR2.out, hrr, bts_toList]; simp
      have h2l2 : (t2.toList == []) = false := by rw [← HTR2.out, hrr, bts_toList]; rfl
      clear hrr hT3
      go_upto_region 21 with fail
      obtain ⟨Wd, hWd⟩ : ∃ W, W5.drew = W := ⟨_, rfl⟩
      obtain ⟨W6, hW6⟩ : ∃ W, Wd.alloc (.cells #[.int .i64 x0, .string x1, .string x2, .int .i64 x3, .slice xd xl xc, .int .i64 y0, .string y1, .string y2, .int .i64 y3, .slice yd yl yc] 26) = W := ⟨_, rfl⟩
      have hUk : UpK c c W5 W6 := by rw [← hW6, ← hWd]; exact (UpK.refl.drew).alloc _
      have HUK := hid hUk
      have hbd : Below W5.heap.size W5 Wd := by rw [← hWd]; exact (Below.refl _ _).drew
      have hb6 : Below W5.heap.size W5 W6 := by rw [← hW6]; exact hbd.alloc hbd.size _
      have HB6 := hid hb6
      have HBX6 : Hid (Box5 c W6) := hid (HBXW5.out.but (But.ofBelow (rb := W5.heap.size) hb6 lr) (Nat.ne_of_lt HBXW5.out.lt))
      have HSD : Hid (Wd.heap.size = W5.heap.size) := hid (by rw [← hWd]; rfl)
      have HGL : Hid (W5.heap.size < W6.heap.size) := hid (by rw [← hW6]; have := HSD.out; simp; omega)
      have HCL : Hid (∀ i, W6.cell? ⟨W5.heap.size, i, none⟩ = (#[.int .i64 x0, .string x1, .string x2, .int .i64 x3, .slice xd xl xc, .int .i64 y0, .string y1, .string y2, .int .i64 y3, .slice yd yl yc] : Array Value)[i]?) := hid (fun i => by rw [← hW6]; exact cell_top _ _ _ _ _ HSD.out.symm)
      have eA : ∀ i, Wd.cell? ⟨d, i, none⟩ = W5.cell? ⟨d, i, none⟩ := fun i => hbd.cell (p := ⟨d, i, none⟩) (Nat.lt_of_lt_of_le hdld (Nat.le_trans HB4.out.size HBW5.out.size))
      have eA2 : ∀ i, W5.cell? ⟨d, i, none⟩ = W3.cell? ⟨d, i, none⟩ := fun i => (HBW5.out.cell (p := ⟨d, i, none⟩) (Nat.lt_of_lt_of_le hdld HB4.out.size)).trans (HB4.out.cell (p := ⟨d, i, none⟩) hdld)
      have eE : ∀ i, Wd.cell? ⟨e2, i, none⟩ = W5.cell? ⟨e2, i, none⟩ := fun i => hbd.cell (p := ⟨e2, i, none⟩) hdle2
      have g0 := (eA 0).trans ((eA2 0).trans bd0)
      have g1 := (eA 1).trans ((eA2 1).trans bd1)
      have g2 := (eA 2).trans ((eA2 2).trans bd2)
      have g3 := (eA 3).trans ((eA2 3).trans bd3)
      have g4 := (eA 4).trans ((eA2 4).trans bd4)
      have f0 := (eE 0).trans be20
      have f1 := (eE 1).trans be21
      have f2 := (eE 2).trans be22
      have f3 := (eE 3).trans be23
      have f4 := (eE 4).trans be24
      have HSS : Hid (Wd.heap.size = W5.heap.size) := HSD
      clear eA eA2 eE hUk hb6 hbd bd0 bd1 bd2 bd3 bd4 be20 be21 be22 be23 be24
      have r0 := HBX6.out.r0
      have r1 := HBX6.out.r1
      have r2 := HBX6.out.r2
      have r3 := HBX6.out.r3
      have r4 := HBX6.out.r4
      have q0 := HBX6.out.fz 0
      have q1 := HBX6.out.fz 1
      have q2 := HBX6.out.fz 2
      have q3 := HBX6.out.fz 3
      have q4 := HBX6.out.fz 4
      have hcl := HBX6.out.lt
      have hcl1 : c < W6.heap.size + 1 := Nat.lt_succ_of_lt hcl
      go_region
      go_wp2_with fail
      refine bodyPost_ret (v := .tuple #[.agg #[.int .i64 5, .string ⟨#[]⟩, .string ⟨#[]⟩, .int .i64 0, .slice (some ⟨Wd.heap.size, 0, none⟩) 2 2], .string T3, .bool true]) (by simp [results, Tryz.results76, go_sem, cell_set, r0, r1, r2, r3, r4, hcl, hcl1]) rfl ?_
      show AskAtQ w O _ (five W6 c (.int .i64 5) (.string ⟨#[]⟩) (.string ⟨#[]⟩) (.int .i64 0) (.slice (some ⟨Wd.heap.size, 0, none⟩) 2 2))
      rw [HOK3.out]
      refine AskAtQ.mk' (five_below (HBw5.out.trans (HB6.out.mono HBw5.out.size)) c _ _ _ _ _ HC.out) ?_
      refine ⟨rfl, HT3.out, ?_⟩
      rw [HSD.out]
      have hW13 := H13.out.size
      have hcW1 := HBX.out.lt
      have hVA5 : AskVP (fun b => W1.heap.size ≤ b ∧ b < W2.heap.size) W5 ya (.agg #[.int .i64 x0, .string x1, .string x2, .int .i64 x3, .slice xd xl xc]) := AskVP.stays (fun b h => h) (Nat.le_trans HB4.out.size HBW5.out.size) (fun b h hb => (HBW5.out.block b (Nat.lt_of_lt_of_le hb HB4.out.size)).trans (HB4.out.block b hb)) _ _ HVA.out
      exact tree_two (rb := c) HUK.out HGL.out HBw5.out.size (Nat.ne_of_gt HBXW5.out.lt) HCL.out hVA5 (fun b h => ⟨Nat.le_trans HB.out.size h.1, by omega, by omega⟩) HVB.out (fun b h => ⟨Nat.le_trans HB.out.size (Nat.le_trans hW13 h.1), by omega, by omega⟩) _ _ _ _ _
     ·have HN2 : Hid (∀ r3, r2 ≠ 41 :: r3) := hid (fun r3 e => hyes2 ⟨r3, e⟩)
      have HP : Hid (O = none) := hid (by rw [HOK2.out, secR_no HN2.out])
      clear hyes2
      cases r2 with
      | nil =>
       have h2l : t2.toList = [] := by rw [← HTR2.out, bts_toList]
       have h2l2 : (t2.toList == []) = true := by rw [h2l]; rfl
       have r0 := HBXW5.out.r0
       have r1 := HBXW5.out.r1
       have r2 := HBXW5.out.r2
       have r3 := HBXW5.out.r3
       have r4 := HBXW5.out.r4
       have q0 := HBXW5.out.fz 0
       have q1 := HBXW5.out.fz 1
       have q2 := HBXW5.out.fz 2
       have q3 := HBXW5.out.fz 3
       have q4 := HBXW5.out.fz 4
       have hcl := HBXW5.out.lt
       have hcl1 : c < W5.heap.size + 1 := Nat.lt_succ_of_lt hcl
       have z0 := HBZW5.out.r0
       have z1 := HBZW5.out.r1
       have z2 := HBZW5.out.r2
       have z3 := HBZW5.out.r3
       have z4 := HBZW5.out.r4
       have zcl := HBZW5.out.lt
       go_wp2_with fail
       refine bodyPost_ret (v := .tuple #[.agg #[.int .i64 0, .string ⟨#[]⟩, .string ⟨#[]⟩, .int .i64 0, .slice none 0 0], .string ⟨#[]⟩, .bool false]) (by simp [results, Tryz.results76, go_sem, cell_set, r0, r1, r2, r3, r4, hcl, hcl1]) rfl ?_
       show AskAtQ w O _ (five W5 c (.int .i64 0) (.string ⟨#[]⟩) (.string ⟨#[]⟩) (.int .i64 0) (.slice none 0 0))
       rw [HP.out]
       exact AskAtQ.mk' (five_below HBw5.out c _ _ _ _ _ HC.out) rfl
      | cons c1 r3 =>
       have h2z : 0 < t2.size := by rw [← HTR2.out, bts_size]; simp
       have h20 : t2[0]'h2z = c1 := lst_at (s := t2) (by rw [← HTR2.out, lst_bts]; rfl) h2z
       have h2l : ¬ t2.toList = [] := by rw [← HTR2.out, bts_toList]; simp
       have h2l2 : (t2.toList == []) = false := by rw [← HTR2.out, bts_toList]; rfl
       have g41 : ((c1.toNat : Int) == 41) = false := by simp only [beq_eq_false_iff_ne]; exact fun h => HN2.out r3 (by rw [show c1 = 41 from UInt8.toNat_inj.1 (by simpa using (by exact_mod_cast h : c1.toNat = 41))])
       have r0 := HBXW5.out.r0
       have r1 := HBXW5.out.r1
       have r2 := HBXW5.out.r2
       have r3 := HBXW5.out.r3
       have r4 := HBXW5.out.r4
       have q0 := HBXW5.out.fz 0
       have q1 := HBXW5.out.fz 1
       have q2 := HBXW5.out.fz 2
       have q3 := HBXW5.out.fz 3
       have q4 := HBXW5.out.fz 4
       have hcl := HBXW5.out.lt
       have hcl1 : c < W5.heap.size + 1 := Nat.lt_succ_of_lt hcl
       have z0 := HBZW5.out.r0
       have z1 := HBZW5.out.r1
       have z2 := HBZW5.out.r2
       have z3 := HBZW5.out.r3
       have z4 := HBZW5.out.r4
       have zcl := HBZW5.out.lt
       go_wp2_with fail
       refine bodyPost_ret (v := .tuple #[.agg #[.int .i64 0, .string ⟨#[]⟩, .string ⟨#[]⟩, .int .i64 0, .slice none 0 0], .string ⟨#[]⟩, .bool false]) (by simp [results, Tryz.results76, go_sem, cell_set, r0, r1, r2, r3, r4, hcl, hcl1]) rfl ?_
       show AskAtQ w O _ (five W5 c (.int .i64 0) (.string ⟨#[]⟩) (.string ⟨#[]⟩) (.int .i64 0) (.slice none 0 0))
       rw [HP.out]
       exact AskAtQ.mk' (five_below HBw5.out c _ _ _ _ _ HC.out) rfl
  ·have HN1 : Hid ((∀ r3, r ≠ 124 :: r3) ∧ (∀ r3, r ≠ 38 :: r3)) := hid ⟨fun r3 e => hyes (.inl ⟨r3, e⟩), fun r3 e => hyes (.inr ⟨r3, e⟩)⟩
   have HP : Hid (O = none) := hid (by rw [HOF.out, fstR_no HN1.out.1 HN1.out.2])
   clear hyes
   cases r with
   | nil =>
    have htl : t1.toList = [] := by rw [← HTR.out, bts_toList]
    have htl2 : (t1.toList == []) = true := by rw [htl]; rfl
    have r0 := HBXW3.out.r0
    have r1 := HBXW3.out.r1
    have r2 := HBXW3.out.r2
    have r3 := HBXW3.out.r3
    have r4 := HBXW3.out.r4
    have q0 := HBXW3.out.fz 0
    have q1 := HBXW3.out.fz 1
    have q2 := HBXW3.out.fz 2
    have q3 := HBXW3.out.fz 3
    have q4 := HBXW3.out.fz 4
    have hcl := HBXW3.out.lt
    have hcl1 : c < W3.heap.size + 1 := Nat.lt_succ_of_lt hcl
    have z0 := HBZW3.out.r0
    have z1 := HBZW3.out.r1
    have z2 := HBZW3.out.r2
    have z3 := HBZW3.out.r3
    have z4 := HBZW3.out.r4
    have zcl := HBZW3.out.lt
    go_wp2_with fail
    refine bodyPost_ret (v := .tuple #[.agg #[.int .i64 0, .string ⟨#[]⟩, .string ⟨#[]⟩, .int .i64 0, .slice none 0 0], .string ⟨#[]⟩, .bool false]) (by simp [results, Tryz.results76, go_sem, cell_set, r0, r1, r2, r3, r4, hcl, hcl1]) rfl ?_
    show AskAtQ w O _ (five W3 c (.int .i64 0) (.string ⟨#[]⟩) (.string ⟨#[]⟩) (.int .i64 0) (.slice none 0 0))
    rw [HP.out]
    exact AskAtQ.mk' (five_below HBw3.out c _ _ _ _ _ HC.out) rfl
   | cons c1 r3 =>
    have htz : 0 < t1.size := by rw [← HTR.out, bts_size]; simp
    have ht0 : t1[0]'htz = c1 := lst_at (s := t1) (by rw [← HTR.out, lst_bts]; rfl) htz
    have htl : ¬ t1.toList = [] := by rw [← HTR.out, bts_toList]; simp
    have htl2 : (t1.toList == []) = false := by rw [← HTR.out, bts_toList]; rfl
    have g124 : ((c1.toNat : Int) == 124) = false := by simp only [beq_eq_false_iff_ne]; exact fun h => HN1.out.1 r3 (by rw [show c1 = 124 from UInt8.toNat_inj.1 (by simpa using (by exact_mod_cast h : c1.toNat = 124))])
    have g38 : ((c1.toNat : Int) == 38) = false := by simp only [beq_eq_false_iff_ne]; exact fun h => HN1.out.2 r3 (by rw [show c1 = 38 from UInt8.toNat_inj.1 (by simpa using (by exact_mod_cast h : c1.toNat = 38))])
    have n124 : ((c1.toNat : Int) != 124) = true := by simp only [bne, g124, Bool.not_false]
    have n38 : ((c1.toNat : Int) != 38) = true := by simp only [bne, g38, Bool.not_false]
    have r0 := HBXW3.out.r0
    have r1 := HBXW3.out.r1
    have r2 := HBXW3.out.r2
    have r3 := HBXW3.out.r3
    have r4 := HBXW3.out.r4
    have q0 := HBXW3.out.fz 0
    have q1 := HBXW3.out.fz 1
    have q2 := HBXW3.out.fz 2
    have q3 := HBXW3.out.fz 3
    have q4 := HBXW3.out.fz 4
    have hcl := HBXW3.out.lt
    have hcl1 : c < W3.heap.size + 1 := Nat.lt_succ_of_lt hcl
    have z0 := HBZW3.out.r0
    have z1 := HBZW3.out.r1
    have z2 := HBZW3.out.r2
    have z3 := HBZW3.out.r3
    have z4 := HBZW3.out.r4
    have zcl := HBZW3.out.lt
    go_wp2_with fail
    refine bodyPost_ret (v := .tuple #[.agg #[.int .i64 0, .string ⟨#[]⟩, .string ⟨#[]⟩, .int .i64 0, .slice none 0 0], .string ⟨#[]⟩, .bool false]) (by simp [results, Tryz.results76, go_sem, cell_set, r0, r1, r2, r3, r4, hcl, hcl1]) rfl ?_
    show AskAtQ w O _ (five W3 c (.int .i64 0) (.string ⟨#[]⟩) (.string ⟨#[]⟩) (.int .i64 0) (.slice none 0 0))
    rw [HP.out]
    exact AskAtQ.mk' (five_below HBw3.out c _ _ _ _ _ HC.out) rfl
end Go.Proofs.YtkemlckmfgacdaaGreatDoor
