/- Contract: the document's reader of an ask: two asks in brackets. -/
import Derived.Test.YtkemlckmfgacdaaGreatDoorJobP7
import Derived.RegionTactic
import Derived.Deep.CutBlock
import Derived.Test.YtkemlckmfgacdaaGreatDoorJobP0
import Derived.Test.YtkemlckmfgacdaaGreatDoorJobP1
set_option linter.unusedVariables false
set_option linter.unusedSimpArgs false
namespace Go.Proofs.YtkemlckmfgacdaaGreatDoor
open Go.ChangeShapes Go.WideShapes Go.ChangeAt Go.RowKit
open Tp
/-- behind a '(' -/
def bothR (N : Nat) (o : Option (Ask × Bs)) : Option (Ask × Bs) := match o with | none => none | some (a, r) => fstR N a r
theorem askR_two' (N : Nat) (t : Bs) : Ar.askR (N + 1) (40 :: t) = bothR N (Ar.askR N t) := askR_two N t
set_option maxRecDepth 20000 in
set_option maxHeartbeats 16000000 in
theorem askAt_two (N : Nat) (t : Bs) (w : World) (hN : N < 61) (hs : t.length ≤ 1999) (hA : ∀ s' W, s'.length ≤ 2000 → Calls Tryz.prog 76 #[.string (bts s'), .int .i64 (N : Int)] W (AskAtQ W (Ar.askR N s'))) (hless : ∀ s' x r, Ar.askR N s' = some (x, r) → r.length ≤ s'.length) : Calls Tryz.prog 76 #[.string (bts (40 :: t)), .int .i64 ((N + 1 : Nat) : Int)] w (AskAtQ w (Ar.askR (N + 1) (40 :: t))) := by
  rw [askR_two']
  obtain ⟨S, hS⟩ : ∃ S, bts (40 :: t) = S := ⟨_, rfl⟩
  obtain ⟨n, hn⟩ : ∃ n, S.size = n := ⟨_, rfl⟩
  have hnl : n = t.length + 1 := by rw [← hn, ← hS, bts_size]; rfl
  have hsz : 0 < S.size := by rw [← hS, bts_size]; simp
  have hS0 : S[0]'hsz = 40 := lst_at (s := S) (by rw [← hS, lst_bts]; rfl) hsz
  have hSl : ¬ S.toList = [] := by rw [← hS, bts_toList]; simp
  have hSl2 : (S.toList == []) = false := by rw [← hS, bts_toList]; rfl
  have hext : S.extract 1 n = bts t := by
    rw [← hS, hnl]
    have := Nr.ext_drop (40 :: t) 1
    simpa using this
  have h1n : (1 : Int) ≤ (n : Int) := by omega
  obtain ⟨D, hD⟩ : ∃ D : Int, ((N + 1 : Nat) : Int) = D := ⟨_, rfl⟩
  have hD0 : ¬ D = 0 := by omega
  have hD1 : (D == 0) = false := by simpa using hD0
  have hDw : IntKind.i64.wrap (D - 1) = (N : Int) := by rw [← hD, show ((N + 1 : Nat) : Int) - 1 = (N : Int) by omega]; exact IntWalk.i64_in _ (by omega)
  obtain ⟨c, hc⟩ : ∃ c, c = w.heap.size := ⟨_, rfl⟩
  obtain ⟨W0, hW0⟩ : ∃ W, W = w.alloc (.cells #[.int .i64 0, .string ⟨#[]⟩, .string ⟨#[]⟩, .int .i64 0, .slice none 0 0] 26) := ⟨_, rfl⟩
  obtain ⟨z, hz⟩ : ∃ z, z = W0.heap.size := ⟨_, rfl⟩
  obtain ⟨W1, hW1⟩ : ∃ W, W = W0.alloc (.cells #[.int .i64 0, .string ⟨#[]⟩, .string ⟨#[]⟩, .int .i64 0, .slice none 0 0] 26) := ⟨_, rfl⟩
  have hb0 : Below w.heap.size w W0 := by rw [hW0]; exact (Below.refl _ _).alloc (Nat.le_refl _) _
  have HB : Hid (Below w.heap.size w W1) := Lib.hid (by rw [hW1]; exact hb0.alloc hb0.size _)
  have HBX : Hid (Box5 c W1) := Lib.hid (by rw [hW1]; exact (by rw [hW0]; exact Box5.top hc : Box5 c W0).but ((But.refl W0.heap.size W0).alloc _) (by rw [hW0, hc]; simp))
  have HBZ : Hid (Box5 z W1) := Lib.hid (by rw [hW1]; exact Box5.top hz)
  have HC : Hid (w.heap.size ≤ c) := Lib.hid (Nat.le_of_eq hc.symm)
  have HAA := Lib.hid hA
  have HLESS := Lib.hid hless
  have HSL := Lib.hid hs
  have HA := Lib.hid (hA t W1 (by omega))
  obtain ⟨O1, hO1⟩ : ∃ O, Ar.askR N t = O := ⟨_, rfl⟩
  have HO1 := Lib.hid hO1
  rw [hO1] at HA
  rw [hO1]
  obtain ⟨O, hO⟩ : ∃ O : Option (Ask × Bs), O = bothR N O1 := ⟨_, rfl⟩
  have HO := Lib.hid hO
  rw [← hO]
  obtain ⟨T, hT⟩ : ∃ T, bts t = T := ⟨_, rfl⟩
  rw [hT] at HA hext
  obtain ⟨E, hE⟩ : ∃ E : Int, (N : Int) = E := ⟨_, rfl⟩
  rw [hE] at HA HAA hDw
  rw [hS, hD]
  clear hb0 hS hs hnl hT hD hN hE hO1 hA hO hless
  go_enter Tryz.func76, Tryz.ntmps76
  go_upto_region 1 with fail
  rw [← hW0, ← hc]
  clear hW0 hc
  go_upto_region 2 with fail
  rw [← hW1, ← hz]
  clear hW1 hz
  have r0 := HBX.out.r0
  have r1 := HBX.out.r1
  have r2 := HBX.out.r2
  have r3 := HBX.out.r3
  have r4 := HBX.out.r4
  have q0 := HBX.out.fz 0
  have q1 := HBX.out.fz 1
  have q2 := HBX.out.fz 2
  have q3 := HBX.out.fz 3
  have q4 := HBX.out.fz 4
  have z0 := HBZ.out.r0
  have z1 := HBZ.out.r1
  have z2 := HBZ.out.r2
  have z3 := HBZ.out.r3
  have z4 := HBZ.out.r4
  have hcl := HBX.out.lt
  go_wp2_with fail
  refine Calls.mono HA.out ?_
  rintro e W2 hq
  obtain ⟨hb2, bv, x0, x1, x2, x3, xd, xl, xc, t1, rfl, hq2⟩ := hq.form
  have HQ2 := Lib.hid hq2
  have HB2 := Lib.hid hb2
  have HBXW2 : Hid (Box5 c W2) := Lib.hid (HBX.out.but (But.ofBelow (rb := W1.heap.size) hb2 (Nat.le_refl _)) (Nat.ne_of_lt HBX.out.lt))
  have HBZW2 : Hid (Box5 z W2) := Lib.hid (HBZ.out.but (But.ofBelow (rb := W1.heap.size) hb2 (Nat.le_refl _)) (Nat.ne_of_lt HBZ.out.lt))
  clear hq hq2 hb2
  clear r0 r1 r2 r3 r4 q0 q1 q2 q3 q4 hcl z0 z1 z2 z3 z4
  go_upto_region 13 with fail
  obtain ⟨W3, hW3⟩ : ∃ W, W = W2.alloc (.cells #[.int .i64 x0, .string x1, .string x2, .int .i64 x3, .slice xd xl xc] 26) := ⟨_, rfl⟩
  obtain ⟨d, hd⟩ : ∃ d, d = W2.heap.size := ⟨_, rfl⟩
  have hbW3 : Below W2.heap.size W2 W3 := by rw [hW3]; exact (Below.refl _ _).alloc (Nat.le_refl _) _
  have HBXW3 : Hid (Box5 c W3) := Lib.hid (HBXW2.out.but (But.ofBelow (rb := d) hbW3 (Nat.le_refl _)) (Nat.ne_of_lt (by rw [hd]; exact HBXW2.out.lt)))
  have bd0 : W3.cell? ⟨d, 0, none⟩ = some (.int .i64 x0) := by rw [hW3]; exact (cell_top _ _ _ _ _ hd).trans rfl
  have bd1 : W3.cell? ⟨d, 1, none⟩ = some (.string x1) := by rw [hW3]; exact (cell_top _ _ _ _ _ hd).trans rfl
  have bd2 : W3.cell? ⟨d, 2, none⟩ = some (.string x2) := by rw [hW3]; exact (cell_top _ _ _ _ _ hd).trans rfl
  have bd3 : W3.cell? ⟨d, 3, none⟩ = some (.int .i64 x3) := by rw [hW3]; exact (cell_top _ _ _ _ _ hd).trans rfl
  have bd4 : W3.cell? ⟨d, 4, none⟩ = some (.slice xd xl xc) := by rw [hW3]; exact (cell_top _ _ _ _ _ hd).trans rfl
  have hdld : d < W3.heap.size := by rw [hW3, hd]; simp
  rw [← hW3, ← hd]
  have HW3 := Lib.hid hW3
  have HDd := Lib.hid hd
  have HBW3 := Lib.hid hbW3
  clear hW3 hd hbW3
  have H13 : Hid (Below W1.heap.size W1 W3) := Lib.hid (HB2.out.trans (HBW3.out.mono HB2.out.size))
  have HBZW3 : Hid (Box5 z W3) := Lib.hid (HBZW2.out.but (But.ofBelow (rb := W2.heap.size) HBW3.out (Nat.le_refl _)) (Nat.ne_of_lt HBZW2.out.lt))
  have HBw3 : Hid (Below w.heap.size w W3) := Lib.hid (HB.out.trans (H13.out.mono HB.out.size))
  obtain ⟨m, hm⟩ : ∃ m, t1.size = m := ⟨_, rfl⟩
  have hq2 := HQ2.out
  cases O1 with
  | none =>
    obtain rfl : bv = false := hq2
    have HP : Hid (O = none) := Lib.hid HO.out
    have r0 := HBXW3.out.r0
    have r1 := HBXW3.out.r1
    have r2 := HBXW3.out.r2
    have r3 := HBXW3.out.r3
    have r4 := HBXW3.out.r4
    have q0 := HBXW3.out.fz 0
    have q1 := HBXW3.out.fz 1
    have q2 := HBXW3.out.fz 2
    have q3 := HBXW3.out.fz 3
    have q4 := HBXW3.out.fz 4
    have hcl := HBXW3.out.lt
    have hcl1 : c < W3.heap.size + 1 := Nat.lt_succ_of_lt hcl
    have z0 := HBZW3.out.r0
    have z1 := HBZW3.out.r1
    have z2 := HBZW3.out.r2
    have z3 := HBZW3.out.r3
    have z4 := HBZW3.out.r4
    have zcl := HBZW3.out.lt
    go_wp2_with fail
    refine bodyPost_ret (v := .tuple #[.agg #[.int .i64 0, .string ⟨#[]⟩, .string ⟨#[]⟩, .int .i64 0, .slice none 0 0], .string ⟨#[]⟩, .bool false]) (by simp [results, Tryz.results76, go_sem, cell_set, r0, r1, r2, r3, r4, hcl, hcl1]) rfl ?_
    show AskAtQ w O _ (five W3 c (.int .i64 0) (.string ⟨#[]⟩) (.string ⟨#[]⟩) (.int .i64 0) (.slice none 0 0))
    rw [HP.out]
    exact AskAtQ.mk' (five_below HBw3.out c _ _ _ _ _ HC.out) rfl
  | some p =>
    obtain ⟨ya, r⟩ := p
    obtain ⟨rfl, htr, hva⟩ := hq2
    have HRL : Hid (r.length ≤ 2000) := Lib.hid (by have := HLESS.out t ya r HO1.out; have := HSL.out; omega)
    have HOF : Hid (O = fstR N ya r) := Lib.hid HO.out
    have HVA : Hid (AskVP (fun b => W1.heap.size ≤ b ∧ b < W2.heap.size) W3 ya (.agg #[.int .i64 x0, .string x1, .string x2, .int .i64 x3, .slice xd xl xc])) := Lib.hid (AskVP.both hva HBW3.out.size (fun b _ hb => HBW3.out.block b hb))
    have HTR := Lib.hid htr
    clear htr hva
    by_cases hyes : (∃ r', r = 124 :: r') ∨ (∃ r', r = 38 :: r')
    · obtain ⟨kk, ch, r', hrr, hOk, hch⟩ : ∃ (kk : Int) (ch : UInt8) (r' : Bs), r = ch :: r' ∧ O = secR kk ya (Ar.askR N r') ∧ ((kk = 6 ∧ ch = 124) ∨ (kk = 5 ∧ ch = 38)) := by
        rcases hyes with ⟨r', h⟩ | ⟨r', h⟩
        · exact ⟨6, 124, r', h, by rw [HOF.out, h]; rfl, .inl ⟨rfl, rfl⟩⟩
        · exact ⟨5, 38, r', h, by rw [HOF.out, h]; rfl, .inr ⟨rfl, rfl⟩⟩
      have HOK := Lib.hid hOk
      have HRL2 : Hid (r'.length ≤ 2000) := Lib.hid (by have := HRL.out; rw [hrr] at this; simp only [List.length_cons] at this; omega)
      obtain ⟨T2, hT2⟩ : ∃ T, bts r' = T := ⟨_, rfl⟩
      have hm1 : (1 : Int) ≤ (m : Int) := by
        have : m = r'.length + 1 := by rw [← hm, ← HTR.out, hrr, bts_size]; rfl
        omega
      have hx1 : t1.extract 1 m = T2 := by
        have e : m = r'.length + 1 := by rw [← hm, ← HTR.out, hrr, bts_size]; rfl
        rw [← hT2, ← HTR.out, hrr, e]
        have := Nr.ext_drop (ch :: r') 1
        simpa using this
      have htz : 0 < t1.size := by omega
      have ht0 : t1[0]'htz = ch := lst_at (s := t1) (by rw [← HTR.out, lst_bts, hrr]; rfl) htz
      have htl : ¬ t1.toList = [] := by rw [← HTR.out, hrr, bts_toList]; simp
      have htl2 : (t1.toList == []) = false := by rw [← HTR.out, hrr, bts_toList]; rfl
      have HA2 := Lib.hid (HAA.out r' W3 HRL2.out)
      rw [hT2] at HA2
      obtain ⟨O2, hO2⟩ : ∃ O, Ar.askR N r' = O := ⟨_, rfl⟩
      have HO2 := Lib.hid hO2
      rw [hO2] at HA2
      have HOK2 : Hid (O = secR kk ya O2) := Lib.hid (by rw [HOK.out, hO2])
      clear hOk hyes hT2 hrr hO2
      rcases hch with ⟨rfl, rfl⟩ | ⟨rfl, rfl⟩
      · go_wp2_with fail
        refine Calls.mono HA2.out ?_
        rintro e W4 hq
        obtain ⟨hb4, bv2, y0, y1, y2, y3, yd, yl, yc, t2, rfl, hq4⟩ := hq.form
        have HQ4 := Lib.hid hq4
        have HB4 := Lib.hid hb4
        have HBXW4 : Hid (Box5 c W4) := Lib.hid (HBXW3.out.but (But.ofBelow (rb := W3.heap.size) hb4 (Nat.le_refl _)) (Nat.ne_of_lt HBXW3.out.lt))
        have HBZW4 : Hid (Box5 z W4) := Lib.hid (HBZW3.out.but (But.ofBelow (rb := W3.heap.size) hb4 (Nat.le_refl _)) (Nat.ne_of_lt HBZW3.out.lt))
        clear hq hq4 hb4
        go_upto_region 19 with fail
        obtain ⟨W5, hW5⟩ : ∃ W, W = W4.alloc (.cells #[.int .i64 y0, .string y1, .string y2, .int .i64 y3, .slice yd yl yc] 26) := ⟨_, rfl⟩
        obtain ⟨e2, hd⟩ : ∃ d, d = W4.heap.size := ⟨_, rfl⟩
        have hbW5 : Below W4.heap.size W4 W5 := by rw [hW5]; exact (Below.refl _ _).alloc (Nat.le_refl _) _
        have HBXW5 : Hid (Box5 c W5) := Lib.hid (HBXW4.out.but (But.ofBelow (rb := e2) hbW5 (Nat.le_refl _)) (Nat.ne_of_lt (by rw [hd]; exact HBXW4.out.lt)))
        have be20 : W5.cell? ⟨e2, 0, none⟩ = some (.int .i64 y0) := by rw [hW5]; exact (cell_top _ _ _ _ _ hd).trans rfl
        have be21 : W5.cell? ⟨e2, 1, none⟩ = some (.string y1) := by rw [hW5]; exact (cell_top _ _ _ _ _ hd).trans rfl
        have be22 : W5.cell? ⟨e2, 2, none⟩ = some (.string y2) := by rw [hW5]; exact (cell_top _ _ _ _ _ hd).trans rfl
        have be23 : W5.cell? ⟨e2, 3, none⟩ = some (.int .i64 y3) := by rw [hW5]; exact (cell_top _ _ _ _ _ hd).trans rfl
        have be24 : W5.cell? ⟨e2, 4, none⟩ = some (.slice yd yl yc) := by rw [hW5]; exact (cell_top _ _ _ _ _ hd).trans rfl
        have hdle2 : e2 < W5.heap.size := by rw [hW5, hd]; simp
        rw [← hW5, ← hd]
        have HW5 := Lib.hid hW5
        have HDe2 := Lib.hid hd
        have HBW5 := Lib.hid hbW5
        clear hW5 hd hbW5
        have HBZW5 : Hid (Box5 z W5) := Lib.hid (HBZW4.out.but (But.ofBelow (rb := W4.heap.size) HBW5.out (Nat.le_refl _)) (Nat.ne_of_lt HBZW4.out.lt))
        have HBw5 : Hid (Below w.heap.size w W5) := Lib.hid (HBw3.out.trans ((HB4.out.trans (HBW5.out.mono HB4.out.size)).mono HBw3.out.size))
        obtain ⟨m2, hm2⟩ : ∃ m, t2.size = m := ⟨_, rfl⟩
        have hq4 := HQ4.out
        cases O2 with
        | none =>
          obtain rfl : bv2 = false := hq4
          have HP : Hid (O = none) := Lib.hid HOK2.out
          have r0 := HBXW5.out.r0
          have r1 := HBXW5.out.r1
          have r2 := HBXW5.out.r2
          have r3 := HBXW5.out.r3
          have r4 := HBXW5.out.r4
          have q0 := HBXW5.out.fz 0
          have q1 := HBXW5.out.fz 1
          have q2 := HBXW5.out.fz 2
          have q3 := HBXW5.out.fz 3
          have q4 := HBXW5.out.fz 4
          have hcl := HBXW5.out.lt
          have hcl1 : c < W5.heap.size + 1 := Nat.lt_succ_of_lt hcl
          have z0 := HBZW5.out.r0
          have z1 := HBZW5.out.r1
          have z2 := HBZW5.out.r2
          have z3 := HBZW5.out.r3
          have z4 := HBZW5.out.r4
          have zcl := HBZW5.out.lt
          go_wp2_with fail
          refine bodyPost_ret (v := .tuple #[.agg #[.int .i64 0, .string ⟨#[]⟩, .string ⟨#[]⟩, .int .i64 0, .slice none 0 0], .string ⟨#[]⟩, .bool false]) (by simp [results, Tryz.results76, go_sem, cell_set, r0, r1, r2, r3, r4, hcl, hcl1]) rfl ?_
          show AskAtQ w O _ (five W5 c (.int .i64 0) (.string ⟨#[]⟩) (.string ⟨#[]⟩) (.int .i64 0) (.slice none 0 0))
          rw [HP.out]
          exact AskAtQ.mk' (five_below HBw5.out c _ _ _ _ _ HC.out) rfl
        | some p2 =>
          obtain ⟨yb, r2⟩ := p2
          obtain ⟨rfl, htr2, hvb⟩ := hq4
          have HVB : Hid (AskVP (fun b => W3.heap.size ≤ b ∧ b < W4.heap.size) W5 yb (.agg #[.int .i64 y0, .string y1, .string y2, .int .i64 y3, .slice yd yl yc])) := Lib.hid (AskVP.both hvb HBW5.out.size (fun b _ hb => HBW5.out.block b hb))
          have HTR2 := Lib.hid htr2
          clear htr2 hvb
          by_cases hyes2 : ∃ r3, r2 = 41 :: r3
          · obtain ⟨r3, hrr⟩ := hyes2
            have HOK3 : Hid (O = some (.mk 6 [] [] 0 [ya, yb], r3)) := Lib.hid (by rw [HOK2.out, hrr]; rfl)
            obtain ⟨T3, hT3⟩ : ∃ T, bts r3 = T := ⟨_, rfl⟩
            have HT3 := Lib.hid hT3
            have hm21 : (1 : Int) ≤ (m2 : Int) := by
              have : m2 = r3.length + 1 := by rw [← hm2, ← HTR2.out, hrr, bts_size]; rfl
              omega
            have hx2 : t2.extract 1 m2 = T3 := by
              have e : m2 = r3.length + 1 := by rw [← hm2, ← HTR2.out, hrr, bts_size]; rfl
              rw [← hT3, ← HTR2.out, hrr, e]
              have := Nr.ext_drop (41 :: r3) 1
              simpa using this
            have h2z : 0 < t2.size := by omega
            have h20 : t2[0]'h2z = 41 := lst_at (s := t2) (by rw [← HTR2.out, lst_bts, hrr]; rfl) h2z
            have h2l : ¬ t2.toList = [] := by rw [← HTR2.out, hrr, bts_toList]; simp
            have h2l2 : (t2.toList == []) = false := by rw [← HTR2.out, hrr, bts_toList]; rfl
            clear hrr hT3
            go_upto_region 21 with fail
            obtain ⟨Wd, hWd⟩ : ∃ W, W5.drew = W := ⟨_, rfl⟩
            obtain ⟨W6, hW6⟩ : ∃ W, Wd.alloc (.cells #[.int .i64 x0, .string x1, .string x2, .int .i64 x3, .slice xd xl xc, .int .i64 y0, .string y1, .string y2, .int .i64 y3, .slice yd yl yc] 26) = W := ⟨_, rfl⟩
            have hUk : UpK c c W5 W6 := by rw [← hW6, ← hWd]; exact (UpK.refl.drew).alloc _
            have HUK := Lib.hid hUk
            have hbd : Below W5.heap.size W5 Wd := by rw [← hWd]; exact (Below.refl _ _).drew
            have hb6 : Below W5.heap.size W5 W6 := by rw [← hW6]; exact hbd.alloc hbd.size _
            have HB6 := Lib.hid hb6
            have HBX6 : Hid (Box5 c W6) := Lib.hid (HBXW5.out.but (But.ofBelow (rb := W5.heap.size) hb6 (Nat.le_refl _)) (Nat.ne_of_lt HBXW5.out.lt))
            have HSD : Hid (Wd.heap.size = W5.heap.size) := Lib.hid (by rw [← hWd]; rfl)
            have HGL : Hid (W5.heap.size < W6.heap.size) := Lib.hid (by rw [← hW6]; have := HSD.out; simp; omega)
            have HCL : Hid (∀ i, W6.cell? ⟨W5.heap.size, i, none⟩ = (#[.int .i64 x0, .string x1, .string x2, .int .i64 x3, .slice xd xl xc, .int .i64 y0, .string y1, .string y2, .int .i64 y3, .slice yd yl yc] : Array Value)[i]?) := Lib.hid (fun i => by rw [← hW6]; exact cell_top _ _ _ _ _ HSD.out.symm)
            have eA : ∀ i, Wd.cell? ⟨d, i, none⟩ = W5.cell? ⟨d, i, none⟩ := fun i => hbd.cell (p := ⟨d, i, none⟩) (Nat.lt_of_lt_of_le hdld (Nat.le_trans HB4.out.size HBW5.out.size))
            have eA2 : ∀ i, W5.cell? ⟨d, i, none⟩ = W3.cell? ⟨d, i, none⟩ := fun i => (HBW5.out.cell (p := ⟨d, i, none⟩) (Nat.lt_of_lt_of_le hdld HB4.out.size)).trans (HB4.out.cell (p := ⟨d, i, none⟩) hdld)
            have eE : ∀ i, Wd.cell? ⟨e2, i, none⟩ = W5.cell? ⟨e2, i, none⟩ := fun i => hbd.cell (p := ⟨e2, i, none⟩) hdle2
            have g0 := (eA 0).trans ((eA2 0).trans bd0)
            have g1 := (eA 1).trans ((eA2 1).trans bd1)
            have g2 := (eA 2).trans ((eA2 2).trans bd2)
            have g3 := (eA 3).trans ((eA2 3).trans bd3)
            have g4 := (eA 4).trans ((eA2 4).trans bd4)
            have f0 := (eE 0).trans be20
            have f1 := (eE 1).trans be21
            have f2 := (eE 2).trans be22
            have f3 := (eE 3).trans be23
            have f4 := (eE 4).trans be24
            have HSS : Hid (Wd.heap.size = W5.heap.size) := HSD
            clear eA eA2 eE hUk hb6 hbd bd0 bd1 bd2 bd3 bd4 be20 be21 be22 be23 be24
            have r0 := HBX6.out.r0
            have r1 := HBX6.out.r1
            have r2 := HBX6.out.r2
            have r3 := HBX6.out.r3
            have r4 := HBX6.out.r4
            have q0 := HBX6.out.fz 0
            have q1 := HBX6.out.fz 1
            have q2 := HBX6.out.fz 2
            have q3 := HBX6.out.fz 3
            have q4 := HBX6.out.fz 4
            have hcl := HBX6.out.lt
            have hcl1 : c < W6.heap.size + 1 := Nat.lt_succ_of_lt hcl
            go_region
            go_wp2_with fail
            refine bodyPost_ret (v := .tuple #[.agg #[.int .i64 6, .string ⟨#[]⟩, .string ⟨#[]⟩, .int .i64 0, .slice (some ⟨Wd.heap.size, 0, none⟩) 2 2], .string T3, .bool true]) (by simp [results, Tryz.results76, go_sem, cell_set, r0, r1, r2, r3, r4, hcl, hcl1]) rfl ?_
            show AskAtQ w O _ (five W6 c (.int .i64 6) (.string ⟨#[]⟩) (.string ⟨#[]⟩) (.int .i64 0) (.slice (some ⟨Wd.heap.size, 0, none⟩) 2 2))
            rw [HOK3.out]
            refine AskAtQ.mk' (five_below (HBw5.out.trans (HB6.out.mono HBw5.out.size)) c _ _ _ _ _ HC.out) ?_
            refine ⟨rfl, HT3.out, ?_⟩
            rw [HSD.out]
            have hW13 := H13.out.size
            have hcW1 := HBX.out.lt
            have hVA5 : AskVP (fun b => W1.heap.size ≤ b ∧ b < W2.heap.size) W5 ya (.agg #[.int .i64 x0, .string x1, .string x2, .int .i64 x3, .slice xd xl xc]) := AskVP.stays (fun b h => h) (Nat.le_trans HB4.out.size HBW5.out.size) (fun b h hb => (HBW5.out.block b (Nat.lt_of_lt_of_le hb HB4.out.size)).trans (HB4.out.block b hb)) _ _ HVA.out
            exact tree_two (rb := c) HUK.out HGL.out HBw5.out.size (Nat.ne_of_gt HBXW5.out.lt) HCL.out hVA5 (fun b h => ⟨Nat.le_trans HB.out.size h.1, by omega, by omega⟩) HVB.out (fun b h => ⟨Nat.le_trans HB.out.size (Nat.le_trans hW13 h.1), by omega, by omega⟩) _ _ _ _ _
          · have HN2 : Hid (∀ r3, r2 ≠ 41 :: r3) := Lib.hid (fun r3 e => hyes2 ⟨r3, e⟩)
            have HP : Hid (O = none) := Lib.hid (by rw [HOK2.out, secR_no HN2.out])
            clear hyes2
            cases r2 with
            | nil =>
              have h2l : t2.toList = [] := by rw [← HTR2.out, bts_toList]
              have h2l2 : (t2.toList == []) = true := by rw [h2l]; rfl
              have r0 := HBXW5.out.r0
              have r1 := HBXW5.out.r1
              have r2 := HBXW5.out.r2
              have r3 := HBXW5.out.r3
              have r4 := HBXW5.out.r4
              have q0 := HBXW5.out.fz 0
              have q1 := HBXW5.out.fz 1
              have q2 := HBXW5.out.fz 2
              have q3 := HBXW5.out.fz 3
              have q4 := HBXW5.out.fz 4
              have hcl := HBXW5.out.lt
              have hcl1 : c < W5.heap.size + 1 := Nat.lt_succ_of_lt hcl
              have z0 := HBZW5.out.r0
              have z1 := HBZW5.out.r1
              have z2 := HBZW5.out.r2
              have z3 := HBZW5.out.r3
              have z4 := HBZW5.out.r4
              have zcl := HBZW5.out.lt
              go_wp2_with fail
              refine bodyPost_ret (v := .tuple #[.agg #[.int .i64 0, .string ⟨#[]⟩, .string ⟨#[]⟩, .int .i64 0, .slice none 0 0], .string ⟨#[]⟩, .bool false]) (by simp [results, Tryz.results76, go_sem, cell_set, r0, r1, r2, r3, r4, hcl, hcl1]) rfl ?_
              show AskAtQ w O _ (five W5 c (.int .i64 0) (.string ⟨#[]⟩) (.string ⟨#[]⟩) (.int .i64 0) (.slice none 0 0))
              rw [HP.out]
              exact AskAtQ.mk' (five_below HBw5.out c _ _ _ _ _ HC.out) rfl
            | cons c1 r3 =>
              have h2z : 0 < t2.size := by rw [← HTR2.out, bts_size]; simp
              have h20 : t2[0]'h2z = c1 := lst_at (s := t2) (by rw [← HTR2.out, lst_bts]; rfl) h2z
              have h2l : ¬ t2.toList = [] := by rw [← HTR2.out, bts_toList]; simp
              have h2l2 : (t2.toList == []) = false := by rw [← HTR2.out, bts_toList]; rfl
              have g41 : ((c1.toNat : Int) == 41) = false := by simp only [beq_eq_false_iff_ne]; exact fun h => HN2.out r3 (by rw [show c1 = 41 from UInt8.toNat_inj.1 (by simpa using (by exact_mod_cast h : c1.toNat = 41))])
              have r0 := HBXW5.out.r0
              have r1 := HBXW5.out.r1
              have r2 := HBXW5.out.r2
              have r3 := HBXW5.out.r3
              have r4 := HBXW5.out.r4
              have q0 := HBXW5.out.fz 0
              have q1 := HBXW5.out.fz 1
              have q2 := HBXW5.out.fz 2
              have q3 := HBXW5.out.fz 3
              have q4 := HBXW5.out.fz 4
              have hcl := HBXW5.out.lt
              have hcl1 : c < W5.heap.size + 1 := Nat.lt_succ_of_lt hcl
              have z0 := HBZW5.out.r0
              have z1 := HBZW5.out.r1
              have z2 := HBZW5.out.r2
              have z3 := HBZW5.out.r3
              have z4 := HBZW5.out.r4
              have zcl := HBZW5.out.lt
              go_wp2_with fail
              refine bodyPost_ret (v := .tuple #[.agg #[.int .i64 0, .string ⟨#[]⟩, .string ⟨#[]⟩, .int .i64 0, .slice none 0 0], .string ⟨#[]⟩, .bool false]) (by simp [results, Tryz.results76, go_sem, cell_set, r0, r1, r2, r3, r4, hcl, hcl1]) rfl ?_
              show AskAtQ w O _ (five W5 c (.int .i64 0) (.string ⟨#[]⟩) (.string ⟨#[]⟩) (.int .i64 0) (.slice none 0 0))
              rw [HP.out]
              exact AskAtQ.mk' (five_below HBw5.out c _ _ _ _ _ HC.out) rfl
      · go_wp2_with fail
        refine Calls.mono HA2.out ?_
        rintro e W4 hq
        obtain ⟨hb4, bv2, y0, y1, y2, y3, yd, yl, yc, t2, rfl, hq4⟩ := hq.form
        have HQ4 := Lib.hid hq4
        have HB4 := Lib.hid hb4
        have HBXW4 : Hid (Box5 c W4) := Lib.hid (HBXW3.out.but (But.ofBelow (rb := W3.heap.size) hb4 (Nat.le_refl _)) (Nat.ne_of_lt HBXW3.out.lt))
        have HBZW4 : Hid (Box5 z W4) := Lib.hid (HBZW3.out.but (But.ofBelow (rb := W3.heap.size) hb4 (Nat.le_refl _)) (Nat.ne_of_lt HBZW3.out.lt))
        clear hq hq4 hb4
        go_upto_region 19 with fail
        obtain ⟨W5, hW5⟩ : ∃ W, W = W4.alloc (.cells #[.int .i64 y0, .string y1, .string y2, .int .i64 y3, .slice yd yl yc] 26) := ⟨_, rfl⟩
        obtain ⟨e2, hd⟩ : ∃ d, d = W4.heap.size := ⟨_, rfl⟩
        have hbW5 : Below W4.heap.size W4 W5 := by rw [hW5]; exact (Below.refl _ _).alloc (Nat.le_refl _) _
        have HBXW5 : Hid (Box5 c W5) := Lib.hid (HBXW4.out.but (But.ofBelow (rb := e2) hbW5 (Nat.le_refl _)) (Nat.ne_of_lt (by rw [hd]; exact HBXW4.out.lt)))
        have be20 : W5.cell? ⟨e2, 0, none⟩ = some (.int .i64 y0) := by rw [hW5]; exact (cell_top _ _ _ _ _ hd).trans rfl
        have be21 : W5.cell? ⟨e2, 1, none⟩ = some (.string y1) := by rw [hW5]; exact (cell_top _ _ _ _ _ hd).trans rfl
        have be22 : W5.cell? ⟨e2, 2, none⟩ = some (.string y2) := by rw [hW5]; exact (cell_top _ _ _ _ _ hd).trans rfl
        have be23 : W5.cell? ⟨e2, 3, none⟩ = some (.int .i64 y3) := by rw [hW5]; exact (cell_top _ _ _ _ _ hd).trans rfl
        have be24 : W5.cell? ⟨e2, 4, none⟩ = some (.slice yd yl yc) := by rw [hW5]; exact (cell_top _ _ _ _ _ hd).trans rfl
        have hdle2 : e2 < W5.heap.size := by rw [hW5, hd]; simp
        rw [← hW5, ← hd]
        have HW5 := Lib.hid hW5
        have HDe2 := Lib.hid hd
        have HBW5 := Lib.hid hbW5
        clear hW5 hd hbW5
        have HBZW5 : Hid (Box5 z W5) := Lib.hid (HBZW4.out.but (But.ofBelow (rb := W4.heap.size) HBW5.out (Nat.le_refl _)) (Nat.ne_of_lt HBZW4.out.lt))
        have HBw5 : Hid (Below w.heap.size w W5) := Lib.hid (HBw3.out.trans ((HB4.out.trans (HBW5.out.mono HB4.out.size)).mono HBw3.out.size))
        obtain ⟨m2, hm2⟩ : ∃ m, t2.size = m := ⟨_, rfl⟩
        have hq4 := HQ4.out
        cases O2 with
        | none =>
          obtain rfl : bv2 = false := hq4
          have HP : Hid (O = none) := Lib.hid HOK2.out
          have r0 := HBXW5.out.r0
          have r1 := HBXW5.out.r1
          have r2 := HBXW5.out.r2
          have r3 := HBXW5.out.r3
          have r4 := HBXW5.out.r4
          have q0 := HBXW5.out.fz 0
          have q1 := HBXW5.out.fz 1
          have q2 := HBXW5.out.fz 2
          have q3 := HBXW5.out.fz 3
          have q4 := HBXW5.out.fz 4
          have hcl := HBXW5.out.lt
          have hcl1 : c < W5.heap.size + 1 := Nat.lt_succ_of_lt hcl
          have z0 := HBZW5.out.r0
          have z1 := HBZW5.out.r1
          have z2 := HBZW5.out.r2
          have z3 := HBZW5.out.r3
          have z4 := HBZW5.out.r4
          have zcl := HBZW5.out.lt
          go_wp2_with fail
          refine bodyPost_ret (v := .tuple #[.agg #[.int .i64 0, .string ⟨#[]⟩, .string ⟨#[]⟩, .int .i64 0, .slice none 0 0], .string ⟨#[]⟩, .bool false]) (by simp [results, Tryz.results76, go_sem, cell_set, r0, r1, r2, r3, r4, hcl, hcl1]) rfl ?_
          show AskAtQ w O _ (five W5 c (.int .i64 0) (.string ⟨#[]⟩) (.string ⟨#[]⟩) (.int .i64 0) (.slice none 0 0))
          rw [HP.out]
          exact AskAtQ.mk' (five_below HBw5.out c _ _ _ _ _ HC.out) rfl
        | some p2 =>
          obtain ⟨yb, r2⟩ := p2
          obtain ⟨rfl, htr2, hvb⟩ := hq4
          have HVB : Hid (AskVP (fun b => W3.heap.size ≤ b ∧ b < W4.heap.size) W5 yb (.agg #[.int .i64 y0, .string y1, .string y2, .int .i64 y3, .slice yd yl yc])) := Lib.hid (AskVP.both hvb HBW5.out.size (fun b _ hb => HBW5.out.block b hb))
          have HTR2 := Lib.hid htr2
          clear htr2 hvb
          by_cases hyes2 : ∃ r3, r2 = 41 :: r3
          · obtain ⟨r3, hrr⟩ := hyes2
            have HOK3 : Hid (O = some (.mk 5 [] [] 0 [ya, yb], r3)) := Lib.hid (by rw [HOK2.out, hrr]; rfl)
            obtain ⟨T3, hT3⟩ : ∃ T, bts r3 = T := ⟨_, rfl⟩
            have HT3 := Lib.hid hT3
            have hm21 : (1 : Int) ≤ (m2 : Int) := by
              have : m2 = r3.length + 1 := by rw [← hm2, ← HTR2.out, hrr, bts_size]; rfl
              omega
            have hx2 : t2.extract 1 m2 = T3 := by
              have e : m2 = r3.length + 1 := by rw [← hm2, ← HTR2.out, hrr, bts_size]; rfl
              rw [← hT3, ← HTR2.out, hrr, e]
              have := Nr.ext_drop (41 :: r3) 1
              simpa using this
            have h2z : 0 < t2.size := by omega
            have h20 : t2[0]'h2z = 41 := lst_at (s := t2) (by rw [← HTR2.out, lst_bts, hrr]; rfl) h2z
            have h2l : ¬ t2.toList = [] := by rw [← HTR2.out, hrr, bts_toList]; simp
            have h2l2 : (t2.toList == []) = false := by rw [← HTR2.out, hrr, bts_toList]; rfl
            clear hrr hT3
            go_upto_region 21 with fail
            obtain ⟨Wd, hWd⟩ : ∃ W, W5.drew = W := ⟨_, rfl⟩
            obtain ⟨W6, hW6⟩ : ∃ W, Wd.alloc (.cells #[.int .i64 x0, .string x1, .string x2, .int .i64 x3, .slice xd xl xc, .int .i64 y0, .string y1, .string y2, .int .i64 y3, .slice yd yl yc] 26) = W := ⟨_, rfl⟩
            have hUk : UpK c c W5 W6 := by rw [← hW6, ← hWd]; exact (UpK.refl.drew).alloc _
            have HUK := Lib.hid hUk
            have hbd : Below W5.heap.size W5 Wd := by rw [← hWd]; exact (Below.refl _ _).drew
            have hb6 : Below W5.heap.size W5 W6 := by rw [← hW6]; exact hbd.alloc hbd.size _
            have HB6 := Lib.hid hb6
            have HBX6 : Hid (Box5 c W6) := Lib.hid (HBXW5.out.but (But.ofBelow (rb := W5.heap.size) hb6 (Nat.le_refl _)) (Nat.ne_of_lt HBXW5.out.lt))
            have HSD : Hid (Wd.heap.size = W5.heap.size) := Lib.hid (by rw [← hWd]; rfl)
            have HGL : Hid (W5.heap.size < W6.heap.size) := Lib.hid (by rw [← hW6]; have := HSD.out; simp; omega)
            have HCL : Hid (∀ i, W6.cell? ⟨W5.heap.size, i, none⟩ = (#[.int .i64 x0, .string x1, .string x2, .int .i64 x3, .slice xd xl xc, .int .i64 y0, .string y1, .string y2, .int .i64 y3, .slice yd yl yc] : Array Value)[i]?) := Lib.hid (fun i => by rw [← hW6]; exact cell_top _ _ _ _ _ HSD.out.symm)
            have eA : ∀ i, Wd.cell? ⟨d, i, none⟩ = W5.cell? ⟨d, i, none⟩ := fun i => hbd.cell (p := ⟨d, i, none⟩) (Nat.lt_of_lt_of_le hdld (Nat.le_trans HB4.out.size HBW5.out.size))
            have eA2 : ∀ i, W5.cell? ⟨d, i, none⟩ = W3.cell? ⟨d, i, none⟩ := fun i => (HBW5.out.cell (p := ⟨d, i, none⟩) (Nat.lt_of_lt_of_le hdld HB4.out.size)).trans (HB4.out.cell (p := ⟨d, i, none⟩) hdld)
            have eE : ∀ i, Wd.cell? ⟨e2, i, none⟩ = W5.cell? ⟨e2, i, none⟩ := fun i => hbd.cell (p := ⟨e2, i, none⟩) hdle2
            have g0 := (eA 0).trans ((eA2 0).trans bd0)
            have g1 := (eA 1).trans ((eA2 1).trans bd1)
            have g2 := (eA 2).trans ((eA2 2).trans bd2)
            have g3 := (eA 3).trans ((eA2 3).trans bd3)
            have g4 := (eA 4).trans ((eA2 4).trans bd4)
            have f0 := (eE 0).trans be20
            have f1 := (eE 1).trans be21
            have f2 := (eE 2).trans be22
            have f3 := (eE 3).trans be23
            have f4 := (eE 4).trans be24
            have HSS : Hid (Wd.heap.size = W5.heap.size) := HSD
            clear eA eA2 eE hUk hb6 hbd bd0 bd1 bd2 bd3 bd4 be20 be21 be22 be23 be24
            have r0 := HBX6.out.r0
            have r1 := HBX6.out.r1
            have r2 := HBX6.out.r2
            have r3 := HBX6.out.r3
            have r4 := HBX6.out.r4
            have q0 := HBX6.out.fz 0
            have q1 := HBX6.out.fz 1
            have q2 := HBX6.out.fz 2
            have q3 := HBX6.out.fz 3
            have q4 := HBX6.out.fz 4
            have hcl := HBX6.out.lt
            have hcl1 : c < W6.heap.size + 1 := Nat.lt_succ_of_lt hcl
            go_region
            go_wp2_with fail
            refine bodyPost_ret (v := .tuple #[.agg #[.int .i64 5, .string ⟨#[]⟩, .string ⟨#[]⟩, .int .i64 0, .slice (some ⟨Wd.heap.size, 0, none⟩) 2 2], .string T3, .bool true]) (by simp [results, Tryz.results76, go_sem, cell_set, r0, r1, r2, r3, r4, hcl, hcl1]) rfl ?_
            show AskAtQ w O _ (five W6 c (.int .i64 5) (.string ⟨#[]⟩) (.string ⟨#[]⟩) (.int .i64 0) (.slice (some ⟨Wd.heap.size, 0, none⟩) 2 2))
            rw [HOK3.out]
            refine AskAtQ.mk' (five_below (HBw5.out.trans (HB6.out.mono HBw5.out.size)) c _ _ _ _ _ HC.out) ?_
            refine ⟨rfl, HT3.out, ?_⟩
            rw [HSD.out]
            have hW13 := H13.out.size
            have hcW1 := HBX.out.lt
            have hVA5 : AskVP (fun b => W1.heap.size ≤ b ∧ b < W2.heap.size) W5 ya (.agg #[.int .i64 x0, .string x1, .string x2, .int .i64 x3, .slice xd xl xc]) := AskVP.stays (fun b h => h) (Nat.le_trans HB4.out.size HBW5.out.size) (fun b h hb => (HBW5.out.block b (Nat.lt_of_lt_of_le hb HB4.out.size)).trans (HB4.out.block b hb)) _ _ HVA.out
            exact tree_two (rb := c) HUK.out HGL.out HBw5.out.size (Nat.ne_of_gt HBXW5.out.lt) HCL.out hVA5 (fun b h => ⟨Nat.le_trans HB.out.size h.1, by omega, by omega⟩) HVB.out (fun b h => ⟨Nat.le_trans HB.out.size (Nat.le_trans hW13 h.1), by omega, by omega⟩) _ _ _ _ _
          · have HN2 : Hid (∀ r3, r2 ≠ 41 :: r3) := Lib.hid (fun r3 e => hyes2 ⟨r3, e⟩)
            have HP : Hid (O = none) := Lib.hid (by rw [HOK2.out, secR_no HN2.out])
            clear hyes2
            cases r2 with
            | nil =>
              have h2l : t2.toList = [] := by rw [← HTR2.out, bts_toList]
              have h2l2 : (t2.toList == []) = true := by rw [h2l]; rfl
              have r0 := HBXW5.out.r0
              have r1 := HBXW5.out.r1
              have r2 := HBXW5.out.r2
              have r3 := HBXW5.out.r3
              have r4 := HBXW5.out.r4
              have q0 := HBXW5.out.fz 0
              have q1 := HBXW5.out.fz 1
              have q2 := HBXW5.out.fz 2
              have q3 := HBXW5.out.fz 3
              have q4 := HBXW5.out.fz 4
              have hcl := HBXW5.out.lt
              have hcl1 : c < W5.heap.size + 1 := Nat.lt_succ_of_lt hcl
              have z0 := HBZW5.out.r0
              have z1 := HBZW5.out.r1
              have z2 := HBZW5.out.r2
              have z3 := HBZW5.out.r3
              have z4 := HBZW5.out.r4
              have zcl := HBZW5.out.lt
              go_wp2_with fail
              refine bodyPost_ret (v := .tuple #[.agg #[.int .i64 0, .string ⟨#[]⟩, .string ⟨#[]⟩, .int .i64 0, .slice none 0 0], .string ⟨#[]⟩, .bool false]) (by simp [results, Tryz.results76, go_sem, cell_set, r0, r1, r2, r3, r4, hcl, hcl1]) rfl ?_
              show AskAtQ w O _ (five W5 c (.int .i64 0) (.string ⟨#[]⟩) (.string ⟨#[]⟩) (.int .i64 0) (.slice none 0 0))
              rw [HP.out]
              exact AskAtQ.mk' (five_below HBw5.out c _ _ _ _ _ HC.out) rfl
            | cons c1 r3 =>
              have h2z : 0 < t2.size := by rw [← HTR2.out, bts_size]; simp
              have h20 : t2[0]'h2z = c1 := lst_at (s := t2) (by rw [← HTR2.out, lst_bts]; rfl) h2z
              have h2l : ¬ t2.toList = [] := by rw [← HTR2.out, bts_toList]; simp
              have h2l2 : (t2.toList == []) = false := by rw [← HTR2.out, bts_toList]; rfl
              have g41 : ((c1.toNat : Int) == 41) = false := by simp only [beq_eq_false_iff_ne]; exact fun h => HN2.out r3 (by rw [show c1 = 41 from UInt8.toNat_inj.1 (by simpa using (by exact_mod_cast h : c1.toNat = 41))])
              have r0 := HBXW5.out.r0
              have r1 := HBXW5.out.r1
              have r2 := HBXW5.out.r2
              have r3 := HBXW5.out.r3
              have r4 := HBXW5.out.r4
              have q0 := HBXW5.out.fz 0
              have q1 := HBXW5.out.fz 1
              have q2 := HBXW5.out.fz 2
              have q3 := HBXW5.out.fz 3
              have q4 := HBXW5.out.fz 4
              have hcl := HBXW5.out.lt
              have hcl1 : c < W5.heap.size + 1 := Nat.lt_succ_of_lt hcl
              have z0 := HBZW5.out.r0
              have z1 := HBZW5.out.r1
              have z2 := HBZW5.out.r2
              have z3 := HBZW5.out.r3
              have z4 := HBZW5.out.r4
              have zcl := HBZW5.out.lt
              go_wp2_with fail
              refine bodyPost_ret (v := .tuple #[.agg #[.int .i64 0, .string ⟨#[]⟩, .string ⟨#[]⟩, .int .i64 0, .slice none 0 0], .string ⟨#[]⟩, .bool false]) (by simp [results, Tryz.results76, go_sem, cell_set, r0, r1, r2, r3, r4, hcl, hcl1]) rfl ?_
              show AskAtQ w O _ (five W5 c (.int .i64 0) (.string ⟨#[]⟩) (.string ⟨#[]⟩) (.int .i64 0) (.slice none 0 0))
              rw [HP.out]
              exact AskAtQ.mk' (five_below HBw5.out c _ _ _ _ _ HC.out) rfl
    · have HN1 : Hid ((∀ r3, r ≠ 124 :: r3) ∧ (∀ r3, r ≠ 38 :: r3)) := Lib.hid ⟨fun r3 e => hyes (.inl ⟨r3, e⟩), fun r3 e => hyes (.inr ⟨r3, e⟩)⟩
      have HP : Hid (O = none) := Lib.hid (by rw [HOF.out, fstR_no HN1.out.1 HN1.out.2])
      clear hyes
      cases r with
      | nil =>
        have htl : t1.toList = [] := by rw [← HTR.out, bts_toList]
        have htl2 : (t1.toList == []) = true := by rw [htl]; rfl
        have r0 := HBXW3.out.r0
        have r1 := HBXW3.out.r1
        have r2 := HBXW3.out.r2
        have r3 := HBXW3.out.r3
        have r4 := HBXW3.out.r4
        have q0 := HBXW3.out.fz 0
        have q1 := HBXW3.out.fz 1
        have q2 := HBXW3.out.fz 2
        have q3 := HBXW3.out.fz 3
        have q4 := HBXW3.out.fz 4
        have hcl := HBXW3.out.lt
        have hcl1 : c < W3.heap.size + 1 := Nat.lt_succ_of_lt hcl
        have z0 := HBZW3.out.r0
        have z1 := HBZW3.out.r1
        have z2 := HBZW3.out.r2
        have z3 := HBZW3.out.r3
        have z4 := HBZW3.out.r4
        have zcl := HBZW3.out.lt
        go_wp2_with fail
        refine bodyPost_ret (v := .tuple #[.agg #[.int .i64 0, .string ⟨#[]⟩, .string ⟨#[]⟩, .int .i64 0, .slice none 0 0], .string ⟨#[]⟩, .bool false]) (by simp [results, Tryz.results76, go_sem, cell_set, r0, r1, r2, r3, r4, hcl, hcl1]) rfl ?_
        show AskAtQ w O _ (five W3 c (.int .i64 0) (.string ⟨#[]⟩) (.string ⟨#[]⟩) (.int .i64 0) (.slice none 0 0))
        rw [HP.out]
        exact AskAtQ.mk' (five_below HBw3.out c _ _ _ _ _ HC.out) rfl
      | cons c1 r3 =>
        have htz : 0 < t1.size := by rw [← HTR.out, bts_size]; simp
        have ht0 : t1[0]'htz = c1 := lst_at (s := t1) (by rw [← HTR.out, lst_bts]; rfl) htz
        have htl : ¬ t1.toList = [] := by rw [← HTR.out, bts_toList]; simp
        have htl2 : (t1.toList == []) = false := by rw [← HTR.out, bts_toList]; rfl
        have g124 : ((c1.toNat : Int) == 124) = false := by simp only [beq_eq_false_iff_ne]; exact fun h => HN1.out.1 r3 (by rw [show c1 = 124 from UInt8.toNat_inj.1 (by simpa using (by exact_mod_cast h : c1.toNat = 124))])
        have g38 : ((c1.toNat : Int) == 38) = false := by simp only [beq_eq_false_iff_ne]; exact fun h => HN1.out.2 r3 (by rw [show c1 = 38 from UInt8.toNat_inj.1 (by simpa using (by exact_mod_cast h : c1.toNat = 38))])
        have n124 : ((c1.toNat : Int) != 124) = true := by simp only [bne, g124, Bool.not_false]
        have n38 : ((c1.toNat : Int) != 38) = true := by simp only [bne, g38, Bool.not_false]
        have r0 := HBXW3.out.r0
        have r1 := HBXW3.out.r1
        have r2 := HBXW3.out.r2
        have r3 := HBXW3.out.r3
        have r4 := HBXW3.out.r4
        have q0 := HBXW3.out.fz 0
        have q1 := HBXW3.out.fz 1
        have q2 := HBXW3.out.fz 2
        have q3 := HBXW3.out.fz 3
        have q4 := HBXW3.out.fz 4
        have hcl := HBXW3.out.lt
        have hcl1 : c < W3.heap.size + 1 := Nat.lt_succ_of_lt hcl
        have z0 := HBZW3.out.r0
        have z1 := HBZW3.out.r1
        have z2 := HBZW3.out.r2
        have z3 := HBZW3.out.r3
        have z4 := HBZW3.out.r4
        have zcl := HBZW3.out.lt
        go_wp2_with fail
        refine bodyPost_ret (v := .tuple #[.agg #[.int .i64 0, .string ⟨#[]⟩, .string ⟨#[]⟩, .int .i64 0, .slice none 0 0], .string ⟨#[]⟩, .bool false]) (by simp [results, Tryz.results76, go_sem, cell_set, r0, r1, r2, r3, r4, hcl, hcl1]) rfl ?_
        show AskAtQ w O _ (five W3 c (.int .i64 0) (.string ⟨#[]⟩) (.string ⟨#[]⟩) (.int .i64 0) (.slice none 0 0))
        rw [HP.out]
        exact AskAtQ.mk' (five_below HBw3.out c _ _ _ _ _ HC.out) rfl
end Go.Proofs.YtkemlckmfgacdaaGreatDoor
/- Contract: the document's reader of an ask: a word, and what follows. -/
namespace Go.Proofs.YtkemlckmfgacdaaGreatDoor
open Tp
theorem askR_other {N : Nat} {s : Bs} (h0 : s ≠ []) (h63 : ∀ t, s ≠ 63 :: t) (h33 : ∀ t, s ≠ 33 :: t) (h40 : ∀ t, s ≠ 40 :: t) : Ar.askR (N + 1) s = elseR (Ar.word s) (Ar.rest s) := by
  unfold Ar.askR elseR
  split
  · exact absurd rfl h0
  · rename_i t; exact absurd rfl (h63 t)
  · rename_i t; exact absurd rfl (h33 t)
  · rename_i t; exact absurd rfl (h40 t)
  · rfl
end Go.Proofs.YtkemlckmfgacdaaGreatDoor
set_option linter.unusedVariables false
set_option linter.unusedSimpArgs false
namespace Go.Proofs.YtkemlckmfgacdaaGreatDoor
open Go.ChangeShapes Go.WideShapes Go.ChangeAt Go.RowKit
open Tp
set_option maxRecDepth 20000 in
set_option maxHeartbeats 16000000 in
theorem askAt_more (N : Nat) (c0 : UInt8) (s1 : Bs) (w : World) (hN : N < 61) (hs : s1.length ≤ 1999) (hk63 : c0 ≠ 63) (hk33 : c0 ≠ 33) (hk40 : c0 ≠ 40) (t : Bs) (hr : Ar.rest (c0 :: s1) = 62 :: 61 :: t) : Calls Tryz.prog 76 #[.string (bts (c0 :: s1)), .int .i64 ((N + 1 : Nat) : Int)] w (AskAtQ w (elseR (Ar.word (c0 :: s1)) (62 :: 61 :: t))) := by
  obtain ⟨S, hS⟩ : ∃ S, bts (c0 :: s1) = S := ⟨_, rfl⟩
  obtain ⟨n, hn⟩ : ∃ n, S.size = n := ⟨_, rfl⟩
  have hnl : n = s1.length + 1 := by rw [← hn, ← hS, bts_size]; rfl
  have hsz : 0 < S.size := by rw [← hS, bts_size]; simp
  have hS0 : S[0]'hsz = c0 := lst_at (s := S) (by rw [← hS, lst_bts]; rfl) hsz
  have hSl : ¬ S.toList = [] := by rw [← hS, bts_toList]; simp
  have hSl2 : (S.toList == []) = false := by rw [← hS, bts_toList]; rfl
  have h1n : (1 : Int) ≤ (n : Int) := by omega
  obtain ⟨D, hD⟩ : ∃ D : Int, ((N + 1 : Nat) : Int) = D := ⟨_, rfl⟩
  have hD0 : ¬ D = 0 := by omega
  have hD1 : (D == 0) = false := by simpa using hD0
  have g63 : ((c0.toNat : Int) == 63) = false := by simp only [beq_eq_false_iff_ne]; exact fun h => hk63 (UInt8.toNat_inj.1 (by simpa using (by exact_mod_cast h : c0.toNat = 63)))
  have g33 : ((c0.toNat : Int) == 33) = false := by simp only [beq_eq_false_iff_ne]; exact fun h => hk33 (UInt8.toNat_inj.1 (by simpa using (by exact_mod_cast h : c0.toNat = 33)))
  have g40 : ((c0.toNat : Int) == 40) = false := by simp only [beq_eq_false_iff_ne]; exact fun h => hk40 (UInt8.toNat_inj.1 (by simpa using (by exact_mod_cast h : c0.toNat = 40)))
  clear hk63 hk33 hk40
  obtain ⟨c, hc⟩ : ∃ c, c = w.heap.size := ⟨_, rfl⟩
  obtain ⟨W0, hW0⟩ : ∃ W, W = w.alloc (.cells #[.int .i64 0, .string ⟨#[]⟩, .string ⟨#[]⟩, .int .i64 0, .slice none 0 0] 26) := ⟨_, rfl⟩
  obtain ⟨z, hz⟩ : ∃ z, z = W0.heap.size := ⟨_, rfl⟩
  obtain ⟨W1, hW1⟩ : ∃ W, W = W0.alloc (.cells #[.int .i64 0, .string ⟨#[]⟩, .string ⟨#[]⟩, .int .i64 0, .slice none 0 0] 26) := ⟨_, rfl⟩
  have hb0 : Below w.heap.size w W0 := by rw [hW0]; exact (Below.refl _ _).alloc (Nat.le_refl _) _
  have HB : Hid (Below w.heap.size w W1) := Lib.hid (by rw [hW1]; exact hb0.alloc hb0.size _)
  have HBX : Hid (Box5 c W1) := Lib.hid (by rw [hW1]; exact (by rw [hW0]; exact Box5.top hc : Box5 c W0).but ((But.refl W0.heap.size W0).alloc _) (by rw [hW0, hc]; simp))
  have HBZ : Hid (Box5 z W1) := Lib.hid (by rw [hW1]; exact Box5.top hz)
  have HC : Hid (w.heap.size ≤ c) := Lib.hid (Nat.le_of_eq hc.symm)
  have HFR := Lib.hid (fun W => front_any (c0 :: s1) W (by simp only [List.length_cons]; omega))
  have HLA : Hid ((Ar.word (c0 :: s1)).length ≤ 9223372036854775807) := Lib.hid (by have := Ar.word_len (c0 :: s1); simp only [List.length_cons] at this; omega)
  have hrl := Ar.rest_len (c0 :: s1)
  rw [hr] at hrl
  have HF2 := Lib.hid (fun W => front_any t W (by simp only [List.length_cons] at hrl; omega))
  have HI2 := Lib.hid (fun W => IntOf_any (Ar.word t) W (by have := Ar.word_len t; simp only [List.length_cons] at hrl; omega))
  obtain ⟨A, hA⟩ : ∃ A, bts (Ar.word (c0 :: s1)) = A := ⟨_, rfl⟩
  obtain ⟨R, hRb⟩ : ∃ R, bts (Ar.rest (c0 :: s1)) = R := ⟨_, rfl⟩
  have HA := Lib.hid hA
  rw [hS, hA, hRb] at HFR
  rw [hS, hD]
  obtain ⟨T, hT⟩ : ∃ T, bts t = T := ⟨_, rfl⟩
  obtain ⟨A2, hA2⟩ : ∃ T, bts (Ar.word t) = T := ⟨_, rfl⟩
  obtain ⟨R2, hR2⟩ : ∃ T, bts (Ar.rest t) = T := ⟨_, rfl⟩
  have HR2 := Lib.hid hR2
  rw [hT, hA2, hR2] at HF2
  rw [hA2] at HI2
  obtain ⟨m, hm⟩ : ∃ m, R.size = m := ⟨_, rfl⟩
  have hml : m = t.length + 2 := by rw [← hm, ← hRb, hr, bts_size]; rfl
  have hx2 : R.extract 2 m = T := by
    rw [← hT, ← hRb, hr, hml]
    have := Nr.ext_drop (62 :: 61 :: t) 2
    simpa using this
  have hx0 : ((R.extract 0 2).toList == [62, 61]) = true := by
    rw [← hRb, hr, Nr.ext_take, bts_toList]; rfl
  have hm1 : (1 : Int) < (m : Int) := by omega
  have hm2 : (2 : Int) ≤ (m : Int) := by omega
  clear hb0 hS hs hnl hT hA hD hN hA2 hR2 hRb hml hrl hr
  go_enter Tryz.func76, Tryz.ntmps76
  go_upto_region 1 with fail
  rw [← hW0, ← hc]
  clear hW0 hc
  go_upto_region 2 with fail
  rw [← hW1, ← hz]
  clear hW1 hz
  have r0 := HBX.out.r0
  have r1 := HBX.out.r1
  have r2 := HBX.out.r2
  have r3 := HBX.out.r3
  have r4 := HBX.out.r4
  have q0 := HBX.out.fz 0
  have q1 := HBX.out.fz 1
  have q2 := HBX.out.fz 2
  have q3 := HBX.out.fz 3
  have q4 := HBX.out.fz 4
  have z0 := HBZ.out.r0
  have z1 := HBZ.out.r1
  have z2 := HBZ.out.r2
  have z3 := HBZ.out.r3
  have z4 := HBZ.out.r4
  have hcl := HBX.out.lt
  go_wp2_with fail
  refine Calls.mono (HFR.out _) ?_
  rintro e W2 ⟨rfl, hb2⟩
  have HB2 : Hid (Below w.heap.size w W2) := Lib.hid (HB.out.trans (hb2.mono HB.out.size))
  have HBX2 : Hid (Box5 c W2) := Lib.hid (HBX.out.but (But.ofBelow (rb := W1.heap.size) hb2 (Nat.le_refl _)) (Nat.ne_of_lt HBX.out.lt))
  have HBZ2 : Hid (Box5 z W2) := Lib.hid (HBZ.out.but (But.ofBelow (rb := W1.heap.size) hb2 (Nat.le_refl _)) (Nat.ne_of_lt HBZ.out.lt))
  clear hb2
  clear r0 r1 r2 r3 r4 q0 q1 q2 q3 q4 hcl z0 z1 z2 z3 z4
  go_wp2_with fail
  refine Calls.mono (HF2.out _) ?_
  rintro e W3 ⟨rfl, hb3⟩
  have HB3 := Lib.hid hb3
  clear hb3
  go_wp2_with fail
  refine Calls.mono (HI2.out _) ?_
  rintro e W4 ⟨n4, rfl, hn4, hb4⟩
  have HN4 := Lib.hid hn4
  have HB24 := Lib.hid (HB3.out.trans (hb4.mono HB3.out.size))
  have HBX4 : Hid (Box5 c W4) := Lib.hid (HBX2.out.but (But.ofBelow (rb := W2.heap.size) HB24.out (Nat.le_refl _)) (Nat.ne_of_lt HBX2.out.lt))
  clear hn4 hb4
  obtain ⟨bv, hbv⟩ : ∃ b, (Nt.intOf (Ar.word t)).isSome = b := ⟨_, rfl⟩
  have HBV := Lib.hid hbv
  rw [hbv]
  clear hbv
  have r0 := HBX4.out.r0
  have r1 := HBX4.out.r1
  have r2 := HBX4.out.r2
  have r3 := HBX4.out.r3
  have r4 := HBX4.out.r4
  have q0 := HBX4.out.fz 0
  have q1 := HBX4.out.fz 1
  have q2 := HBX4.out.fz 2
  have q3 := HBX4.out.fz 3
  have q4 := HBX4.out.fz 4
  have hcl := HBX4.out.lt
  have hcl1 : c < W4.heap.size + 1 := Nat.lt_succ_of_lt hcl
  go_wp2_with fail
  refine bodyPost_ret (v := .tuple #[.agg #[.int .i64 3, .string A, .string ⟨#[]⟩, .int .i64 n4, .slice none 0 0], .string R2, .bool bv]) (by simp [results, Tryz.results76, go_sem, cell_set, r0, r1, r2, r3, r4, hcl]) rfl ?_
  show AskAtQ w _ _ (five W4 c (.int .i64 3) (.string A) (.string ⟨#[]⟩) (.int .i64 n4) (.slice none 0 0))
  refine AskAtQ.mk' (five_below (HB2.out.trans (HB24.out.mono HB2.out.size)) c _ _ _ _ _ HC.out) ?_
  rw [elseR_more]
  have hbv := HBV.out
  have hn4 := HN4.out
  cases hi : Nt.intOf (Ar.word t) with
  | none => rw [hi] at hbv; exact hbv.symm
  | some v =>
    rw [hi] at hbv
    obtain rfl : n4 = v := hn4 v hi
    rw [← HA.out, ← HR2.out]
    exact ⟨hbv.symm, rfl, leaf_vp 3 (Ar.word (c0 :: s1)) [] n4 HLA.out (by simp)⟩
set_option maxRecDepth 20000 in
set_option maxHeartbeats 16000000 in
theorem askAt_is (N : Nat) (c0 : UInt8) (s1 : Bs) (w : World) (hN : N < 61) (hs : s1.length ≤ 1999) (hk63 : c0 ≠ 63) (hk33 : c0 ≠ 33) (hk40 : c0 ≠ 40) (t : Bs) (hr : Ar.rest (c0 :: s1) = 61 :: t) : Calls Tryz.prog 76 #[.string (bts (c0 :: s1)), .int .i64 ((N + 1 : Nat) : Int)] w (AskAtQ w (elseR (Ar.word (c0 :: s1)) (61 :: t))) := by
  obtain ⟨S, hS⟩ : ∃ S, bts (c0 :: s1) = S := ⟨_, rfl⟩
  obtain ⟨n, hn⟩ : ∃ n, S.size = n := ⟨_, rfl⟩
  have hnl : n = s1.length + 1 := by rw [← hn, ← hS, bts_size]; rfl
  have hsz : 0 < S.size := by rw [← hS, bts_size]; simp
  have hS0 : S[0]'hsz = c0 := lst_at (s := S) (by rw [← hS, lst_bts]; rfl) hsz
  have hSl : ¬ S.toList = [] := by rw [← hS, bts_toList]; simp
  have hSl2 : (S.toList == []) = false := by rw [← hS, bts_toList]; rfl
  have h1n : (1 : Int) ≤ (n : Int) := by omega
  obtain ⟨D, hD⟩ : ∃ D : Int, ((N + 1 : Nat) : Int) = D := ⟨_, rfl⟩
  have hD0 : ¬ D = 0 := by omega
  have hD1 : (D == 0) = false := by simpa using hD0
  have g63 : ((c0.toNat : Int) == 63) = false := by simp only [beq_eq_false_iff_ne]; exact fun h => hk63 (UInt8.toNat_inj.1 (by simpa using (by exact_mod_cast h : c0.toNat = 63)))
  have g33 : ((c0.toNat : Int) == 33) = false := by simp only [beq_eq_false_iff_ne]; exact fun h => hk33 (UInt8.toNat_inj.1 (by simpa using (by exact_mod_cast h : c0.toNat = 33)))
  have g40 : ((c0.toNat : Int) == 40) = false := by simp only [beq_eq_false_iff_ne]; exact fun h => hk40 (UInt8.toNat_inj.1 (by simpa using (by exact_mod_cast h : c0.toNat = 40)))
  clear hk63 hk33 hk40
  obtain ⟨c, hc⟩ : ∃ c, c = w.heap.size := ⟨_, rfl⟩
  obtain ⟨W0, hW0⟩ : ∃ W, W = w.alloc (.cells #[.int .i64 0, .string ⟨#[]⟩, .string ⟨#[]⟩, .int .i64 0, .slice none 0 0] 26) := ⟨_, rfl⟩
  obtain ⟨z, hz⟩ : ∃ z, z = W0.heap.size := ⟨_, rfl⟩
  obtain ⟨W1, hW1⟩ : ∃ W, W = W0.alloc (.cells #[.int .i64 0, .string ⟨#[]⟩, .string ⟨#[]⟩, .int .i64 0, .slice none 0 0] 26) := ⟨_, rfl⟩
  have hb0 : Below w.heap.size w W0 := by rw [hW0]; exact (Below.refl _ _).alloc (Nat.le_refl _) _
  have HB : Hid (Below w.heap.size w W1) := Lib.hid (by rw [hW1]; exact hb0.alloc hb0.size _)
  have HBX : Hid (Box5 c W1) := Lib.hid (by rw [hW1]; exact (by rw [hW0]; exact Box5.top hc : Box5 c W0).but ((But.refl W0.heap.size W0).alloc _) (by rw [hW0, hc]; simp))
  have HBZ : Hid (Box5 z W1) := Lib.hid (by rw [hW1]; exact Box5.top hz)
  have HC : Hid (w.heap.size ≤ c) := Lib.hid (Nat.le_of_eq hc.symm)
  have HFR := Lib.hid (fun W => front_any (c0 :: s1) W (by simp only [List.length_cons]; omega))
  have HLA : Hid ((Ar.word (c0 :: s1)).length ≤ 9223372036854775807) := Lib.hid (by have := Ar.word_len (c0 :: s1); simp only [List.length_cons] at this; omega)
  have hrl := Ar.rest_len (c0 :: s1)
  rw [hr] at hrl
  have HF2 := Lib.hid (fun W => front_any t W (by simp only [List.length_cons] at hrl; omega))
  have HLB : Hid ((Ar.word t).length ≤ 9223372036854775807) := Lib.hid (by have := Ar.word_len t; simp only [List.length_cons] at hrl; omega)
  obtain ⟨A, hA⟩ : ∃ A, bts (Ar.word (c0 :: s1)) = A := ⟨_, rfl⟩
  obtain ⟨R, hRb⟩ : ∃ R, bts (Ar.rest (c0 :: s1)) = R := ⟨_, rfl⟩
  have HA := Lib.hid hA
  rw [hS, hA, hRb] at HFR
  rw [hS, hD]
  obtain ⟨T, hT⟩ : ∃ T, bts t = T := ⟨_, rfl⟩
  obtain ⟨A2, hA2⟩ : ∃ T, bts (Ar.word t) = T := ⟨_, rfl⟩
  obtain ⟨R2, hR2⟩ : ∃ T, bts (Ar.rest t) = T := ⟨_, rfl⟩
  have HR2 := Lib.hid hR2
  have HA2 := Lib.hid hA2
  rw [hT, hA2, hR2] at HF2
  obtain ⟨m, hm⟩ : ∃ m, R.size = m := ⟨_, rfl⟩
  have hml : m = t.length + 1 := by rw [← hm, ← hRb, hr, bts_size]; rfl
  have hx1 : R.extract 1 m = T := by
    rw [← hT, ← hRb, hr, hml]
    have := Nr.ext_drop (61 :: t) 1
    simpa using this
  have hRz : 0 < R.size := by omega
  have hR0 : R[0]'hRz = 61 := lst_at (s := R) (by rw [← hRb, lst_bts, hr]; rfl) hRz
  have hRl : ¬ R.toList = [] := by rw [← hRb, hr, bts_toList]; simp
  have hRl2 : (R.toList == []) = false := by rw [← hRb, hr, bts_toList]; rfl
  have hm1 : (1 : Int) ≤ (m : Int) := by omega
  have hARM : (¬ (1 : Int) < (m : Int)) ∨ ((1 : Int) < (m : Int) ∧ (2 : Int) ≤ (m : Int) ∧ ((R.extract 0 2).toList == [62, 61]) = false) := by
    by_cases h : (1 : Int) < (m : Int)
    · exact .inr ⟨h, by omega, by rw [← hRb, hr, Nr.ext_take, bts_toList]; simp⟩
    · exact .inl h
  clear hb0 hS hs hnl hT hA hD hN hA2 hR2 hRb hml hrl hr
  have HARM := Lib.hid hARM
  clear hARM
  rcases HARM.out with hm3 | ⟨hm3, hm2, hx0⟩
  · go_enter Tryz.func76, Tryz.ntmps76
    go_upto_region 1 with fail
    rw [← hW0, ← hc]
    clear hW0 hc
    go_upto_region 2 with fail
    rw [← hW1, ← hz]
    clear hW1 hz
    have r0 := HBX.out.r0
    have r1 := HBX.out.r1
    have r2 := HBX.out.r2
    have r3 := HBX.out.r3
    have r4 := HBX.out.r4
    have q0 := HBX.out.fz 0
    have q1 := HBX.out.fz 1
    have q2 := HBX.out.fz 2
    have q3 := HBX.out.fz 3
    have q4 := HBX.out.fz 4
    have z0 := HBZ.out.r0
    have z1 := HBZ.out.r1
    have z2 := HBZ.out.r2
    have z3 := HBZ.out.r3
    have z4 := HBZ.out.r4
    have hcl := HBX.out.lt
    go_wp2_with fail
    refine Calls.mono (HFR.out _) ?_
    rintro e W2 ⟨rfl, hb2⟩
    have HB2 : Hid (Below w.heap.size w W2) := Lib.hid (HB.out.trans (hb2.mono HB.out.size))
    have HBX2 : Hid (Box5 c W2) := Lib.hid (HBX.out.but (But.ofBelow (rb := W1.heap.size) hb2 (Nat.le_refl _)) (Nat.ne_of_lt HBX.out.lt))
    have HBZ2 : Hid (Box5 z W2) := Lib.hid (HBZ.out.but (But.ofBelow (rb := W1.heap.size) hb2 (Nat.le_refl _)) (Nat.ne_of_lt HBZ.out.lt))
    clear hb2
    clear r0 r1 r2 r3 r4 q0 q1 q2 q3 q4 hcl z0 z1 z2 z3 z4
    go_wp2_with fail
    refine Calls.mono (HF2.out _) ?_
    rintro e W3 ⟨rfl, hb3⟩
    have HB3 := Lib.hid hb3
    have HBX3 : Hid (Box5 c W3) := Lib.hid (HBX2.out.but (But.ofBelow (rb := W2.heap.size) hb3 (Nat.le_refl _)) (Nat.ne_of_lt HBX2.out.lt))
    clear hb3
    have r0 := HBX3.out.r0
    have r1 := HBX3.out.r1
    have r2 := HBX3.out.r2
    have r3 := HBX3.out.r3
    have r4 := HBX3.out.r4
    have q0 := HBX3.out.fz 0
    have q1 := HBX3.out.fz 1
    have q2 := HBX3.out.fz 2
    have q3 := HBX3.out.fz 3
    have q4 := HBX3.out.fz 4
    have hcl := HBX3.out.lt
    have hcl1 : c < W3.heap.size + 1 := Nat.lt_succ_of_lt hcl
    go_wp2_with fail
    refine bodyPost_ret (v := .tuple #[.agg #[.int .i64 2, .string A, .string A2, .int .i64 0, .slice none 0 0], .string R2, .bool true]) (by simp [results, Tryz.results76, go_sem, cell_set, r0, r1, r2, r3, r4, hcl]) rfl ?_
    show AskAtQ w _ _ (five W3 c (.int .i64 2) (.string A) (.string A2) (.int .i64 0) (.slice none 0 0))
    refine AskAtQ.mk' (five_below (HB2.out.trans (HB3.out.mono HB2.out.size)) c _ _ _ _ _ HC.out) ?_
    rw [elseR_is, ← HA.out, ← HR2.out, ← HA2.out]
    exact ⟨rfl, rfl, leaf_vp 2 (Ar.word (c0 :: s1)) (Ar.word t) 0 HLA.out HLB.out⟩
  · go_enter Tryz.func76, Tryz.ntmps76
    go_upto_region 1 with fail
    rw [← hW0, ← hc]
    clear hW0 hc
    go_upto_region 2 with fail
    rw [← hW1, ← hz]
    clear hW1 hz
    have r0 := HBX.out.r0
    have r1 := HBX.out.r1
    have r2 := HBX.out.r2
    have r3 := HBX.out.r3
    have r4 := HBX.out.r4
    have q0 := HBX.out.fz 0
    have q1 := HBX.out.fz 1
    have q2 := HBX.out.fz 2
    have q3 := HBX.out.fz 3
    have q4 := HBX.out.fz 4
    have z0 := HBZ.out.r0
    have z1 := HBZ.out.r1
    have z2 := HBZ.out.r2
    have z3 := HBZ.out.r3
    have z4 := HBZ.out.r4
    have hcl := HBX.out.lt
    go_wp2_with fail
    refine Calls.mono (HFR.out _) ?_
    rintro e W2 ⟨rfl, hb2⟩
    have HB2 : Hid (Below w.heap.size w W2) := Lib.hid (HB.out.trans (hb2.mono HB.out.size))
    have HBX2 : Hid (Box5 c W2) := Lib.hid (HBX.out.but (But.ofBelow (rb := W1.heap.size) hb2 (Nat.le_refl _)) (Nat.ne_of_lt HBX.out.lt))
    have HBZ2 : Hid (Box5 z W2) := Lib.hid (HBZ.out.but (But.ofBelow (rb := W1.heap.size) hb2 (Nat.le_refl _)) (Nat.ne_of_lt HBZ.out.lt))
    clear hb2
    clear r0 r1 r2 r3 r4 q0 q1 q2 q3 q4 hcl z0 z1 z2 z3 z4
    go_wp2_with fail
    refine Calls.mono (HF2.out _) ?_
    rintro e W3 ⟨rfl, hb3⟩
    have HB3 := Lib.hid hb3
    have HBX3 : Hid (Box5 c W3) := Lib.hid (HBX2.out.but (But.ofBelow (rb := W2.heap.size) hb3 (Nat.le_refl _)) (Nat.ne_of_lt HBX2.out.lt))
    clear hb3
    have r0 := HBX3.out.r0
    have r1 := HBX3.out.r1
    have r2 := HBX3.out.r2
    have r3 := HBX3.out.r3
    have r4 := HBX3.out.r4
    have q0 := HBX3.out.fz 0
    have q1 := HBX3.out.fz 1
    have q2 := HBX3.out.fz 2
    have q3 := HBX3.out.fz 3
    have q4 := HBX3.out.fz 4
    have hcl := HBX3.out.lt
    have hcl1 : c < W3.heap.size + 1 := Nat.lt_succ_of_lt hcl
    go_wp2_with fail
    refine bodyPost_ret (v := .tuple #[.agg #[.int .i64 2, .string A, .string A2, .int .i64 0, .slice none 0 0], .string R2, .bool true]) (by simp [results, Tryz.results76, go_sem, cell_set, r0, r1, r2, r3, r4, hcl]) rfl ?_
    show AskAtQ w _ _ (five W3 c (.int .i64 2) (.string A) (.string A2) (.int .i64 0) (.slice none 0 0))
    refine AskAtQ.mk' (five_below (HB2.out.trans (HB3.out.mono HB2.out.size)) c _ _ _ _ _ HC.out) ?_
    rw [elseR_is, ← HA.out, ← HR2.out, ← HA2.out]
    exact ⟨rfl, rfl, leaf_vp 2 (Ar.word (c0 :: s1)) (Ar.word t) 0 HLA.out HLB.out⟩
set_option maxRecDepth 20000 in
set_option maxHeartbeats 16000000 in
theorem askAt_no (N : Nat) (c0 : UInt8) (s1 : Bs) (w : World) (hN : N < 61) (hs : s1.length ≤ 1999) (hk63 : c0 ≠ 63) (hk33 : c0 ≠ 33) (hk40 : c0 ≠ 40) (hr1 : ∀ t, Ar.rest (c0 :: s1) ≠ 62 :: 61 :: t) (hr2 : ∀ t, Ar.rest (c0 :: s1) ≠ 61 :: t) : Calls Tryz.prog 76 #[.string (bts (c0 :: s1)), .int .i64 ((N + 1 : Nat) : Int)] w (AskAtQ w (none)) := by
  obtain ⟨S, hS⟩ : ∃ S, bts (c0 :: s1) = S := ⟨_, rfl⟩
  obtain ⟨n, hn⟩ : ∃ n, S.size = n := ⟨_, rfl⟩
  have hnl : n = s1.length + 1 := by rw [← hn, ← hS, bts_size]; rfl
  have hsz : 0 < S.size := by rw [← hS, bts_size]; simp
  have hS0 : S[0]'hsz = c0 := lst_at (s := S) (by rw [← hS, lst_bts]; rfl) hsz
  have hSl : ¬ S.toList = [] := by rw [← hS, bts_toList]; simp
  have hSl2 : (S.toList == []) = false := by rw [← hS, bts_toList]; rfl
  have h1n : (1 : Int) ≤ (n : Int) := by omega
  obtain ⟨D, hD⟩ : ∃ D : Int, ((N + 1 : Nat) : Int) = D := ⟨_, rfl⟩
  have hD0 : ¬ D = 0 := by omega
  have hD1 : (D == 0) = false := by simpa using hD0
  have g63 : ((c0.toNat : Int) == 63) = false := by simp only [beq_eq_false_iff_ne]; exact fun h => hk63 (UInt8.toNat_inj.1 (by simpa using (by exact_mod_cast h : c0.toNat = 63)))
  have g33 : ((c0.toNat : Int) == 33) = false := by simp only [beq_eq_false_iff_ne]; exact fun h => hk33 (UInt8.toNat_inj.1 (by simpa using (by exact_mod_cast h : c0.toNat = 33)))
  have g40 : ((c0.toNat : Int) == 40) = false := by simp only [beq_eq_false_iff_ne]; exact fun h => hk40 (UInt8.toNat_inj.1 (by simpa using (by exact_mod_cast h : c0.toNat = 40)))
  clear hk63 hk33 hk40
  obtain ⟨c, hc⟩ : ∃ c, c = w.heap.size := ⟨_, rfl⟩
  obtain ⟨W0, hW0⟩ : ∃ W, W = w.alloc (.cells #[.int .i64 0, .string ⟨#[]⟩, .string ⟨#[]⟩, .int .i64 0, .slice none 0 0] 26) := ⟨_, rfl⟩
  obtain ⟨z, hz⟩ : ∃ z, z = W0.heap.size := ⟨_, rfl⟩
  obtain ⟨W1, hW1⟩ : ∃ W, W = W0.alloc (.cells #[.int .i64 0, .string ⟨#[]⟩, .string ⟨#[]⟩, .int .i64 0, .slice none 0 0] 26) := ⟨_, rfl⟩
  have hb0 : Below w.heap.size w W0 := by rw [hW0]; exact (Below.refl _ _).alloc (Nat.le_refl _) _
  have HB : Hid (Below w.heap.size w W1) := Lib.hid (by rw [hW1]; exact hb0.alloc hb0.size _)
  have HBX : Hid (Box5 c W1) := Lib.hid (by rw [hW1]; exact (by rw [hW0]; exact Box5.top hc : Box5 c W0).but ((But.refl W0.heap.size W0).alloc _) (by rw [hW0, hc]; simp))
  have HBZ : Hid (Box5 z W1) := Lib.hid (by rw [hW1]; exact Box5.top hz)
  have HC : Hid (w.heap.size ≤ c) := Lib.hid (Nat.le_of_eq hc.symm)
  have HFR := Lib.hid (fun W => front_any (c0 :: s1) W (by simp only [List.length_cons]; omega))
  have HLA : Hid ((Ar.word (c0 :: s1)).length ≤ 9223372036854775807) := Lib.hid (by have := Ar.word_len (c0 :: s1); simp only [List.length_cons] at this; omega)
  have hrl := Ar.rest_len (c0 :: s1)
  obtain ⟨A, hA⟩ : ∃ A, bts (Ar.word (c0 :: s1)) = A := ⟨_, rfl⟩
  obtain ⟨R, hRb⟩ : ∃ R, bts (Ar.rest (c0 :: s1)) = R := ⟨_, rfl⟩
  have HA := Lib.hid hA
  rw [hS, hA, hRb] at HFR
  rw [hS, hD]
  obtain ⟨m, hm⟩ : ∃ m, R.size = m := ⟨_, rfl⟩
  obtain ⟨c1, hc1⟩ : ∃ c1 : UInt8, (R.toList = [] ∧ m = 0) ∨ (R.toList ≠ [] ∧ ∃ h : 0 < R.size, R[0]'h = c1) ∧ c1 ≠ 61 ∧ (1 < m → ((R.extract 0 2).toList == [62, 61]) = false) := by
    cases hrr : Ar.rest (c0 :: s1) with
    | nil => exact ⟨0, .inl ⟨by rw [← hRb, hrr, bts_toList], by rw [← hm, ← hRb, hrr]; rfl⟩⟩
    | cons x r =>
      refine ⟨x, .inr ⟨⟨by rw [← hRb, hrr, bts_toList]; simp, by rw [← hRb, hrr, bts_size]; simp, lst_at (s := R) (by rw [← hRb, lst_bts, hrr]; rfl) _⟩, fun h => hr2 r (by rw [hrr, h]), fun h => ?_⟩⟩
      rw [← hRb, hrr, Nr.ext_take, bts_toList]
      cases r with
      | nil => simp
      | cons y r =>
        simp only [List.take_succ_cons, List.take_zero, beq_eq_false_iff_ne]
        intro he
        injection he with e1 e2
        injection e2 with e2 e3
        exact hr1 r (by rw [hrr, e1, e2])
  have hARM : (R.toList = [] ∧ (R.toList == []) = true ∧ ¬ (1 : Int) < (m : Int)) ∨ (((R.toList == []) = false ∧ (∃ h : 0 < R.size, R[0]'h = c1) ∧ ((c1.toNat : Int) == 61) = false) ∧ (¬ (1 : Int) < (m : Int) ∨ ((1 : Int) < (m : Int) ∧ (2 : Int) ≤ (m : Int) ∧ ((R.extract 0 2).toList == [62, 61]) = false))) := by
    rcases hc1 with ⟨h1, h2⟩ | ⟨⟨h1, h2⟩, h3, h4⟩
    · exact .inl ⟨h1, by rw [h1]; rfl, by omega⟩
    · refine .inr ⟨⟨by simpa using h1, h2, ?_⟩, ?_⟩
      · simp only [beq_eq_false_iff_ne]; exact fun h => h3 (UInt8.toNat_inj.1 (by simpa using (by exact_mod_cast h : c1.toNat = 61)))
      · by_cases h : (1 : Int) < (m : Int)
        · exact .inr ⟨h, by omega, h4 (by omega)⟩
        · exact .inl h
  clear hb0 hS hs hnl hA hD hN hRb hrl hr1 hr2 hc1
  have HARM := Lib.hid hARM
  clear hARM
  rcases HARM.out with ⟨hRl, hRl2, hm3⟩ | ⟨⟨hRl2, ⟨hRz, hR0⟩, g61⟩, (hm3 | ⟨hm3, hm2, hx0⟩)⟩
  · go_enter Tryz.func76, Tryz.ntmps76
    go_upto_region 1 with fail
    rw [← hW0, ← hc]
    clear hW0 hc
    go_upto_region 2 with fail
    rw [← hW1, ← hz]
    clear hW1 hz
    have r0 := HBX.out.r0
    have r1 := HBX.out.r1
    have r2 := HBX.out.r2
    have r3 := HBX.out.r3
    have r4 := HBX.out.r4
    have q0 := HBX.out.fz 0
    have q1 := HBX.out.fz 1
    have q2 := HBX.out.fz 2
    have q3 := HBX.out.fz 3
    have q4 := HBX.out.fz 4
    have z0 := HBZ.out.r0
    have z1 := HBZ.out.r1
    have z2 := HBZ.out.r2
    have z3 := HBZ.out.r3
    have z4 := HBZ.out.r4
    have hcl := HBX.out.lt
    go_wp2_with fail
    refine Calls.mono (HFR.out _) ?_
    rintro e W2 ⟨rfl, hb2⟩
    have HB2 : Hid (Below w.heap.size w W2) := Lib.hid (HB.out.trans (hb2.mono HB.out.size))
    have HBX2 : Hid (Box5 c W2) := Lib.hid (HBX.out.but (But.ofBelow (rb := W1.heap.size) hb2 (Nat.le_refl _)) (Nat.ne_of_lt HBX.out.lt))
    have HBZ2 : Hid (Box5 z W2) := Lib.hid (HBZ.out.but (But.ofBelow (rb := W1.heap.size) hb2 (Nat.le_refl _)) (Nat.ne_of_lt HBZ.out.lt))
    clear hb2
    clear r0 r1 r2 r3 r4 q0 q1 q2 q3 q4 hcl z0 z1 z2 z3 z4
    have z0 := HBZ2.out.r0
    have z1 := HBZ2.out.r1
    have z2 := HBZ2.out.r2
    have z3 := HBZ2.out.r3
    have z4 := HBZ2.out.r4
    have zcl := HBZ2.out.lt
    have r0 := HBX2.out.r0
    have r1 := HBX2.out.r1
    have r2 := HBX2.out.r2
    have r3 := HBX2.out.r3
    have r4 := HBX2.out.r4
    have q0 := HBX2.out.fz 0
    have q1 := HBX2.out.fz 1
    have q2 := HBX2.out.fz 2
    have q3 := HBX2.out.fz 3
    have q4 := HBX2.out.fz 4
    have hcl := HBX2.out.lt
    have hcl1 : c < W2.heap.size + 1 := Nat.lt_succ_of_lt hcl
    go_wp2_with fail
    refine bodyPost_ret (v := .tuple #[.agg #[.int .i64 0, .string ⟨#[]⟩, .string ⟨#[]⟩, .int .i64 0, .slice none 0 0], .string ⟨#[]⟩, .bool false]) (by simp [results, Tryz.results76, go_sem, cell_set, r0, r1, r2, r3, r4, hcl]) rfl ?_
    show AskAtQ w _ _ (five W2 c (.int .i64 0) (.string ⟨#[]⟩) (.string ⟨#[]⟩) (.int .i64 0) (.slice none 0 0))
    exact AskAtQ.mk' (five_below HB2.out c _ _ _ _ _ HC.out) rfl
  · go_enter Tryz.func76, Tryz.ntmps76
    go_upto_region 1 with fail
    rw [← hW0, ← hc]
    clear hW0 hc
    go_upto_region 2 with fail
    rw [← hW1, ← hz]
    clear hW1 hz
    have r0 := HBX.out.r0
    have r1 := HBX.out.r1
    have r2 := HBX.out.r2
    have r3 := HBX.out.r3
    have r4 := HBX.out.r4
    have q0 := HBX.out.fz 0
    have q1 := HBX.out.fz 1
    have q2 := HBX.out.fz 2
    have q3 := HBX.out.fz 3
    have q4 := HBX.out.fz 4
    have z0 := HBZ.out.r0
    have z1 := HBZ.out.r1
    have z2 := HBZ.out.r2
    have z3 := HBZ.out.r3
    have z4 := HBZ.out.r4
    have hcl := HBX.out.lt
    go_wp2_with fail
    refine Calls.mono (HFR.out _) ?_
    rintro e W2 ⟨rfl, hb2⟩
    have HB2 : Hid (Below w.heap.size w W2) := Lib.hid (HB.out.trans (hb2.mono HB.out.size))
    have HBX2 : Hid (Box5 c W2) := Lib.hid (HBX.out.but (But.ofBelow (rb := W1.heap.size) hb2 (Nat.le_refl _)) (Nat.ne_of_lt HBX.out.lt))
    have HBZ2 : Hid (Box5 z W2) := Lib.hid (HBZ.out.but (But.ofBelow (rb := W1.heap.size) hb2 (Nat.le_refl _)) (Nat.ne_of_lt HBZ.out.lt))
    clear hb2
    clear r0 r1 r2 r3 r4 q0 q1 q2 q3 q4 hcl z0 z1 z2 z3 z4
    have z0 := HBZ2.out.r0
    have z1 := HBZ2.out.r1
    have z2 := HBZ2.out.r2
    have z3 := HBZ2.out.r3
    have z4 := HBZ2.out.r4
    have zcl := HBZ2.out.lt
    have r0 := HBX2.out.r0
    have r1 := HBX2.out.r1
    have r2 := HBX2.out.r2
    have r3 := HBX2.out.r3
    have r4 := HBX2.out.r4
    have q0 := HBX2.out.fz 0
    have q1 := HBX2.out.fz 1
    have q2 := HBX2.out.fz 2
    have q3 := HBX2.out.fz 3
    have q4 := HBX2.out.fz 4
    have hcl := HBX2.out.lt
    have hcl1 : c < W2.heap.size + 1 := Nat.lt_succ_of_lt hcl
    go_wp2_with fail
    refine bodyPost_ret (v := .tuple #[.agg #[.int .i64 0, .string ⟨#[]⟩, .string ⟨#[]⟩, .int .i64 0, .slice none 0 0], .string ⟨#[]⟩, .bool false]) (by simp [results, Tryz.results76, go_sem, cell_set, r0, r1, r2, r3, r4, hcl]) rfl ?_
    show AskAtQ w _ _ (five W2 c (.int .i64 0) (.string ⟨#[]⟩) (.string ⟨#[]⟩) (.int .i64 0) (.slice none 0 0))
    exact AskAtQ.mk' (five_below HB2.out c _ _ _ _ _ HC.out) rfl
  · go_enter Tryz.func76, Tryz.ntmps76
    go_upto_region 1 with fail
    rw [← hW0, ← hc]
    clear hW0 hc
    go_upto_region 2 with fail
    rw [← hW1, ← hz]
    clear hW1 hz
    have r0 := HBX.out.r0
    have r1 := HBX.out.r1
    have r2 := HBX.out.r2
    have r3 := HBX.out.r3
    have r4 := HBX.out.r4
    have q0 := HBX.out.fz 0
    have q1 := HBX.out.fz 1
    have q2 := HBX.out.fz 2
    have q3 := HBX.out.fz 3
    have q4 := HBX.out.fz 4
    have z0 := HBZ.out.r0
    have z1 := HBZ.out.r1
    have z2 := HBZ.out.r2
    have z3 := HBZ.out.r3
    have z4 := HBZ.out.r4
    have hcl := HBX.out.lt
    go_wp2_with fail
    refine Calls.mono (HFR.out _) ?_
    rintro e W2 ⟨rfl, hb2⟩
    have HB2 : Hid (Below w.heap.size w W2) := Lib.hid (HB.out.trans (hb2.mono HB.out.size))
    have HBX2 : Hid (Box5 c W2) := Lib.hid (HBX.out.but (But.ofBelow (rb := W1.heap.size) hb2 (Nat.le_refl _)) (Nat.ne_of_lt HBX.out.lt))
    have HBZ2 : Hid (Box5 z W2) := Lib.hid (HBZ.out.but (But.ofBelow (rb := W1.heap.size) hb2 (Nat.le_refl _)) (Nat.ne_of_lt HBZ.out.lt))
    clear hb2
    clear r0 r1 r2 r3 r4 q0 q1 q2 q3 q4 hcl z0 z1 z2 z3 z4
    have z0 := HBZ2.out.r0
    have z1 := HBZ2.out.r1
    have z2 := HBZ2.out.r2
    have z3 := HBZ2.out.r3
    have z4 := HBZ2.out.r4
    have zcl := HBZ2.out.lt
    have r0 := HBX2.out.r0
    have r1 := HBX2.out.r1
    have r2 := HBX2.out.r2
    have r3 := HBX2.out.r3
    have r4 := HBX2.out.r4
    have q0 := HBX2.out.fz 0
    have q1 := HBX2.out.fz 1
    have q2 := HBX2.out.fz 2
    have q3 := HBX2.out.fz 3
    have q4 := HBX2.out.fz 4
    have hcl := HBX2.out.lt
    have hcl1 : c < W2.heap.size + 1 := Nat.lt_succ_of_lt hcl
    go_wp2_with fail
    refine bodyPost_ret (v := .tuple #[.agg #[.int .i64 0, .string ⟨#[]⟩, .string ⟨#[]⟩, .int .i64 0, .slice none 0 0], .string ⟨#[]⟩, .bool false]) (by simp [results, Tryz.results76, go_sem, cell_set, r0, r1, r2, r3, r4, hcl]) rfl ?_
    show AskAtQ w _ _ (five W2 c (.int .i64 0) (.string ⟨#[]⟩) (.string ⟨#[]⟩) (.int .i64 0) (.slice none 0 0))
    exact AskAtQ.mk' (five_below HB2.out c _ _ _ _ _ HC.out) rfl
end Go.Proofs.YtkemlckmfgacdaaGreatDoor
/- Contracts: is an ask right? The document's. -/
namespace Go.Proofs.YtkemlckmfgacdaaGreatDoor
open Go.ChangeShapes Go.WideShapes Go.ChangeAt Go.RowKit
set_option linter.unusedVariables false
open Tp
set_option maxRecDepth 20000 in
set_option maxHeartbeats 64000000 in
theorem askErr_all : ∀ (N : Nat) (x : Ask) (v : Value) (w : World), x.size ≤ N → AskV w x v → Calls Tryz.prog 72 #[v] w fun e w' => e = .returned (.int .i64 x.err) ∧ Below w.heap.size w w' := by
  intro N
  induction N with
  | zero => intro x v w h; have := Ask.one_le x; omega
  | succ N ih =>
    intro x v w hN hv
    cases x with
    | mk k ka va nu l =>
    rw [AskV] at hv
    obtain ⟨ad, n, cap, rfl, hn, hcap, hmax, hk1, hk2, hrow⟩ := hv
    have HIH := Lib.hid ih
    have HR := Lib.hid hrow
    have HN := Lib.hid hn
    rw [Ask.size] at hN
    have HE : Hid ((Ask.mk k ka va nu l).err = if Ask.bad k ka va nu n ≠ 0 then Ask.bad k ka va nu n else Ask.errs l) := Lib.hid (by rw [Ask.err, hn])
    obtain ⟨E, hE⟩ : ∃ E, (Ask.mk k ka va nu l).err = E := ⟨_, rfl⟩
    rw [hE] at HE ⊢
    have HEV : Hid (∀ c : Int, c ≠ 0 → Ask.bad k ka va nu n = c → c = E) := Lib.hid (fun c h0 hc => by rw [HE.out, hc, if_pos h0])
    have HLK := Lib.hid (fun w => gLabel_any (bts ka) w (by rw [bts_size]; exact hk1))
    have HLV := Lib.hid (fun w => gLabel_any (bts va) w (by rw [bts_size]; exact hk2))
    rw [lst_bts] at HLK HLV
    obtain ⟨a1, ha1⟩ : ∃ a, bts ka = a := ⟨_, rfl⟩
    obtain ⟨a2, ha2⟩ : ∃ a, bts va = a := ⟨_, rfl⟩
    rw [ha1] at HLK ⊢
    rw [ha2] at HLV ⊢
    have HA1 := Lib.hid ha1
    have HA2 := Lib.hid ha2
    have HB0 : Hid (Below w.heap.size w (w.alloc (.cells #[.int .i64 k, .string a1, .string a2, .int .i64 nu, .slice ad n cap] 26))) := Lib.hid ((Below.refl _ _).alloc (Nat.le_refl _) _)
    clear ih hrow hn hE ha1 ha2 hk1 hk2
    by_cases hk : k < 1
    · have HV : Hid ((1 : Int) = E) := Lib.hid (HEV.out 1 (by decide) (by rw [Ask.bad, if_pos (.inl hk)]))
      go_enter Tryz.func72, Tryz.ntmps72
      go_wp2_with fail
      go_ret
      exact ⟨ret_int HV.out, HB0.out⟩
    have hkl := hk
    clear hk
    by_cases hk : 6 < k
    · have HV : Hid ((1 : Int) = E) := Lib.hid (HEV.out 1 (by decide) (by rw [Ask.bad, if_pos (.inr hk)]))
      go_enter Tryz.func72, Tryz.ntmps72
      go_wp2_with fail
      go_ret
      exact ⟨ret_int HV.out, HB0.out⟩
    have hkh := hk
    clear hk
    have HKR : Hid (¬ (k < 1 ∨ 6 < k)) := Lib.hid (by omega)
    have hks : k = 1 ∨ k = 2 ∨ k = 3 ∨ k = 4 ∨ k = 5 ∨ k = 6 := by omega
    clear hkl hkh
    rcases hks with rfl | hks
    · have HKI : Hid (Ask.inner 1 = 0) := Lib.hid rfl
      go_enter Tryz.func72, Tryz.ntmps72
      go_upto_region 4 with fail
      obtain ⟨W0, hW0⟩ : ∃ W, W = (w.alloc (.cells #[.int .i64 1, .string a1, .string a2, .int .i64 nu, .slice ad n cap] 26)).alloc (.cells #[.int .i64 0, .int .i64 0, .int .i64 0, .int .i64 0, .int .i64 1, .int .i64 2, .int .i64 2] 3) := ⟨_, rfl⟩
      have HBC : Hid (Below w.heap.size w W0) := Lib.hid (by rw [hW0]; exact HB0.out.alloc HB0.out.size _)
      obtain ⟨cx, hcx⟩ : ∃ c, c = w.heap.size := ⟨_, rfl⟩
      have hcx0 : cx < W0.heap.size := by rw [hcx, hW0]; simp <;> omega
      have d0 : W0.cell? ⟨cx, 0, none⟩ = some (.int .i64 1) := by rw [hcx, hW0]; simp
      have d1 : W0.cell? ⟨cx, 1, none⟩ = some (.string a1) := by rw [hcx, hW0]; simp
      have d2 : W0.cell? ⟨cx, 2, none⟩ = some (.string a2) := by rw [hcx, hW0]; simp
      have d3 : W0.cell? ⟨cx, 3, none⟩ = some (.int .i64 nu) := by rw [hcx, hW0]; simp
      have d4 : W0.cell? ⟨cx, 4, none⟩ = some (.slice ad n cap) := by rw [hcx, hW0]; simp
      rw [← hW0, ← hcx]
      clear hW0 hcx HB0
      by_cases hc : n ≠ 0
      · have HV : Hid ((1 : Int) = E) := Lib.hid (HEV.out 1 (by decide) (by rw [Ask.bad, if_neg HKR.out, if_pos (.inl hc)]))
        have hf : ((n : Int) != 0) = true := by simp; omega
        clear hc
        go_wp2_with fail
        go_ret
        exact ⟨ret_int HV.out, HBC.out⟩
      obtain rfl : n = 0 := Decidable.byContradiction hc
      clear hc
      by_cases hc : va ≠ []
      · have HV : Hid ((1 : Int) = E) := Lib.hid (HEV.out 1 (by decide) (by rw [Ask.bad, if_neg HKR.out, if_pos (.inr (.inr (.inl ⟨by decide, hc⟩)))]))
        have hg := isEmpty_no HA2.out hc
        clear hc
        go_wp2_with fail
        go_ret
        exact ⟨ret_int HV.out, HBC.out⟩
      have hva : va = [] := Decidable.byContradiction hc
      clear hc
      obtain rfl := bts_nil HA2.out hva
      have HVA := Lib.hid hva
      clear hva
      by_cases hc : nu ≠ 0
      · have HV : Hid ((1 : Int) = E) := Lib.hid (HEV.out 1 (by decide) (by rw [Ask.bad, if_neg HKR.out, if_pos (.inr (.inr (.inr ⟨by decide, hc⟩)))]))
        have hg : (nu != 0) = true := by simpa using hc
        clear hc
        go_wp2_with fail
        go_ret
        exact ⟨ret_int HV.out, HBC.out⟩
      obtain rfl : nu = 0 := Decidable.byContradiction hc
      clear hc
      have H1 : Hid (¬ ((0 : Nat) ≠ Ask.inner 1 ∨ ((4 : Int) ≤ 1 ∧ ka ≠ []) ∨ ((1 : Int) ≠ 2 ∧ va ≠ []) ∨ ((1 : Int) ≠ 3 ∧ (0 : Int) ≠ 0))) := Lib.hid (by
        rintro (h | ⟨h, h2⟩ | ⟨h, h2⟩ | ⟨h, h2⟩)
        · exact h rfl
        · exact absurd h (by decide)
        · exact h2 HVA.out
        · exact h2 rfl)
      cases hu : lab ka with
      | false =>
        have HV : Hid ((3 : Int) = E) := Lib.hid (HEV.out 3 (by decide) (by rw [Ask.bad, if_neg HKR.out, if_neg H1.out, if_pos (.inr (.inl ⟨.inl rfl, hu⟩))]))
        rw [hu] at HLK
        clear hu
        go_wp2_with fail
        refine Calls.mono (HLK.out _) ?_
        rintro e' W3 ⟨rfl, hl⟩
        have HBB : Hid (Below w.heap.size w W3) := Lib.hid (HBC.out.trans (hl.mono HBC.out.size))
        have e0 := (hl.cell (p := ⟨cx, 0, none⟩) hcx0).trans d0
        have e1 := (hl.cell (p := ⟨cx, 1, none⟩) hcx0).trans d1
        have e2 := (hl.cell (p := ⟨cx, 2, none⟩) hcx0).trans d2
        have e3 := (hl.cell (p := ⟨cx, 3, none⟩) hcx0).trans d3
        have e4 := (hl.cell (p := ⟨cx, 4, none⟩) hcx0).trans d4
        have hcx1 := Nat.lt_of_lt_of_le hcx0 hl.size
        clear d0 d1 d2 d3 d4 hcx0 HBC hl
        have d0 := e0
        have d1 := e1
        have d2 := e2
        have d3 := e3
        have d4 := e4
        have hcx0 := hcx1
        have HBC := HBB
        clear e0 e1 e2 e3 e4 hcx1 HBB
        go_wp2_with fail
        go_ret
        exact ⟨ret_int HV.out, HBC.out⟩
      | true =>
        rw [hu] at HLK
        have H2 : Hid (¬ (((1 : Int) = 3 ∧ Ask.unit ka = false) ∨ (((1 : Int) = 1 ∨ (1 : Int) = 2) ∧ lab ka = false) ∨ ((1 : Int) = 2 ∧ lab va = false))) := Lib.hid (by
          rintro (⟨h, _⟩ | ⟨h, h3⟩ | ⟨h, h3⟩)
          · omega
          · rw [hu] at h3; cases h3
          · omega)
        have HZ : Hid (Ask.bad 1 ka va 0 0 = 0) := Lib.hid (by rw [Ask.bad, if_neg HKR.out, if_neg H1.out, if_neg H2.out, if_neg (by omega)])
        clear hu
        have HER : Hid (E = Ask.errs l) := Lib.hid (by rw [HE.out, if_neg (by rw [HZ.out]; decide)])
        go_wp2_with fail
        refine Calls.mono (HLK.out _) ?_
        rintro e' W3 ⟨rfl, hl⟩
        have HBB : Hid (Below w.heap.size w W3) := Lib.hid (HBC.out.trans (hl.mono HBC.out.size))
        have e0 := (hl.cell (p := ⟨cx, 0, none⟩) hcx0).trans d0
        have e1 := (hl.cell (p := ⟨cx, 1, none⟩) hcx0).trans d1
        have e2 := (hl.cell (p := ⟨cx, 2, none⟩) hcx0).trans d2
        have e3 := (hl.cell (p := ⟨cx, 3, none⟩) hcx0).trans d3
        have e4 := (hl.cell (p := ⟨cx, 4, none⟩) hcx0).trans d4
        have hcx1 := Nat.lt_of_lt_of_le hcx0 hl.size
        clear d0 d1 d2 d3 d4 hcx0 HBC hl
        have d0 := e0
        have d1 := e1
        have d2 := e2
        have d3 := e3
        have d4 := e4
        have hcx0 := hcx1
        have HBC := HBB
        clear e0 e1 e2 e3 e4 hcx1 HBB
        go_wp2_with fail
        go_loopg [110] 0 (fun g x wr => ∃ j : Nat, j + g = 0 ∧ x = .int .i64 (j : Int) ∧ Hid (Ask.OkTo l j) ∧ Hid (Below w.heap.size w wr))
        case atStart => exact ⟨0, by omega, rfl, Lib.hid (Ask.OkTo.zero l), HBC⟩
        case round =>
          clear d0 d1 d2 d3 d4 hcx0 HBC
          obtain ⟨j, hj, rfl, HO, HB⟩ := hrel
          obtain rfl : j = 0 := by omega
          have HV : Hid ((0 : Int) = E) := Lib.hid (by rw [HER.out]; exact (HO.out.fin (by rw [← HN.out]; exact Nat.le_refl _)).symm)
          go_wp2_with fail
          go_ret
          exact ⟨ret_int HV.out, HB.out⟩
    rcases hks with rfl | hks
    · have HKI : Hid (Ask.inner 2 = 0) := Lib.hid rfl
      go_enter Tryz.func72, Tryz.ntmps72
      go_upto_region 4 with fail
      obtain ⟨W0, hW0⟩ : ∃ W, W = (w.alloc (.cells #[.int .i64 2, .string a1, .string a2, .int .i64 nu, .slice ad n cap] 26)).alloc (.cells #[.int .i64 0, .int .i64 0, .int .i64 0, .int .i64 0, .int .i64 1, .int .i64 2, .int .i64 2] 3) := ⟨_, rfl⟩
      have HBC : Hid (Below w.heap.size w W0) := Lib.hid (by rw [hW0]; exact HB0.out.alloc HB0.out.size _)
      obtain ⟨cx, hcx⟩ : ∃ c, c = w.heap.size := ⟨_, rfl⟩
      have hcx0 : cx < W0.heap.size := by rw [hcx, hW0]; simp <;> omega
      have d0 : W0.cell? ⟨cx, 0, none⟩ = some (.int .i64 2) := by rw [hcx, hW0]; simp
      have d1 : W0.cell? ⟨cx, 1, none⟩ = some (.string a1) := by rw [hcx, hW0]; simp
      have d2 : W0.cell? ⟨cx, 2, none⟩ = some (.string a2) := by rw [hcx, hW0]; simp
      have d3 : W0.cell? ⟨cx, 3, none⟩ = some (.int .i64 nu) := by rw [hcx, hW0]; simp
      have d4 : W0.cell? ⟨cx, 4, none⟩ = some (.slice ad n cap) := by rw [hcx, hW0]; simp
      rw [← hW0, ← hcx]
      clear hW0 hcx HB0
      by_cases hc : n ≠ 0
      · have HV : Hid ((1 : Int) = E) := Lib.hid (HEV.out 1 (by decide) (by rw [Ask.bad, if_neg HKR.out, if_pos (.inl hc)]))
        have hf : ((n : Int) != 0) = true := by simp; omega
        clear hc
        go_wp2_with fail
        go_ret
        exact ⟨ret_int HV.out, HBC.out⟩
      obtain rfl : n = 0 := Decidable.byContradiction hc
      clear hc
      by_cases hc : nu ≠ 0
      · have HV : Hid ((1 : Int) = E) := Lib.hid (HEV.out 1 (by decide) (by rw [Ask.bad, if_neg HKR.out, if_pos (.inr (.inr (.inr ⟨by decide, hc⟩)))]))
        have hg : (nu != 0) = true := by simpa using hc
        clear hc
        go_wp2_with fail
        go_ret
        exact ⟨ret_int HV.out, HBC.out⟩
      obtain rfl : nu = 0 := Decidable.byContradiction hc
      clear hc
      have H1 : Hid (¬ ((0 : Nat) ≠ Ask.inner 2 ∨ ((4 : Int) ≤ 2 ∧ ka ≠ []) ∨ ((2 : Int) ≠ 2 ∧ va ≠ []) ∨ ((2 : Int) ≠ 3 ∧ (0 : Int) ≠ 0))) := Lib.hid (by
        rintro (h | ⟨h, h2⟩ | ⟨h, h2⟩ | ⟨h, h2⟩)
        · exact h rfl
        · exact absurd h (by decide)
        · exact h rfl
        · exact h2 rfl)
      cases hu : lab ka with
      | false =>
        have HV : Hid ((3 : Int) = E) := Lib.hid (HEV.out 3 (by decide) (by rw [Ask.bad, if_neg HKR.out, if_neg H1.out, if_pos (.inr (.inl ⟨.inr rfl, hu⟩))]))
        rw [hu] at HLK
        clear hu
        go_wp2_with fail
        refine Calls.mono (HLK.out _) ?_
        rintro e' W3 ⟨rfl, hl⟩
        have HBB : Hid (Below w.heap.size w W3) := Lib.hid (HBC.out.trans (hl.mono HBC.out.size))
        have e0 := (hl.cell (p := ⟨cx, 0, none⟩) hcx0).trans d0
        have e1 := (hl.cell (p := ⟨cx, 1, none⟩) hcx0).trans d1
        have e2 := (hl.cell (p := ⟨cx, 2, none⟩) hcx0).trans d2
        have e3 := (hl.cell (p := ⟨cx, 3, none⟩) hcx0).trans d3
        have e4 := (hl.cell (p := ⟨cx, 4, none⟩) hcx0).trans d4
        have hcx1 := Nat.lt_of_lt_of_le hcx0 hl.size
        clear d0 d1 d2 d3 d4 hcx0 HBC hl
        have d0 := e0
        have d1 := e1
        have d2 := e2
        have d3 := e3
        have d4 := e4
        have hcx0 := hcx1
        have HBC := HBB
        clear e0 e1 e2 e3 e4 hcx1 HBB
        go_wp2_with fail
        go_ret
        exact ⟨ret_int HV.out, HBC.out⟩
      | true =>
        rw [hu] at HLK
        cases hu2 : lab va with
        | false =>
          have HV : Hid ((3 : Int) = E) := Lib.hid (HEV.out 3 (by decide) (by rw [Ask.bad, if_neg HKR.out, if_neg H1.out, if_pos (.inr (.inr ⟨rfl, hu2⟩))]))
          rw [hu2] at HLV
          clear hu hu2
          go_wp2_with fail
          refine Calls.mono (HLK.out _) ?_
          rintro e' W3 ⟨rfl, hl⟩
          have HBB : Hid (Below w.heap.size w W3) := Lib.hid (HBC.out.trans (hl.mono HBC.out.size))
          have e0 := (hl.cell (p := ⟨cx, 0, none⟩) hcx0).trans d0
          have e1 := (hl.cell (p := ⟨cx, 1, none⟩) hcx0).trans d1
          have e2 := (hl.cell (p := ⟨cx, 2, none⟩) hcx0).trans d2
          have e3 := (hl.cell (p := ⟨cx, 3, none⟩) hcx0).trans d3
          have e4 := (hl.cell (p := ⟨cx, 4, none⟩) hcx0).trans d4
          have hcx1 := Nat.lt_of_lt_of_le hcx0 hl.size
          clear d0 d1 d2 d3 d4 hcx0 HBC hl
          have d0 := e0
          have d1 := e1
          have d2 := e2
          have d3 := e3
          have d4 := e4
          have hcx0 := hcx1
          have HBC := HBB
          clear e0 e1 e2 e3 e4 hcx1 HBB
          go_wp2_with fail
          refine Calls.mono (HLV.out _) ?_
          rintro e' W3 ⟨rfl, hl⟩
          have HBB : Hid (Below w.heap.size w W3) := Lib.hid (HBC.out.trans (hl.mono HBC.out.size))
          have e0 := (hl.cell (p := ⟨cx, 0, none⟩) hcx0).trans d0
          have e1 := (hl.cell (p := ⟨cx, 1, none⟩) hcx0).trans d1
          have e2 := (hl.cell (p := ⟨cx, 2, none⟩) hcx0).trans d2
          have e3 := (hl.cell (p := ⟨cx, 3, none⟩) hcx0).trans d3
          have e4 := (hl.cell (p := ⟨cx, 4, none⟩) hcx0).trans d4
          have hcx1 := Nat.lt_of_lt_of_le hcx0 hl.size
          clear d0 d1 d2 d3 d4 hcx0 HBC hl
          have d0 := e0
          have d1 := e1
          have d2 := e2
          have d3 := e3
          have d4 := e4
          have hcx0 := hcx1
          have HBC := HBB
          clear e0 e1 e2 e3 e4 hcx1 HBB
          go_wp2_with fail
          go_ret
          exact ⟨ret_int HV.out, HBC.out⟩
        | true =>
          rw [hu2] at HLV
          have H2 : Hid (¬ (((2 : Int) = 3 ∧ Ask.unit ka = false) ∨ (((2 : Int) = 1 ∨ (2 : Int) = 2) ∧ lab ka = false) ∨ ((2 : Int) = 2 ∧ lab va = false))) := Lib.hid (by
            rintro (⟨h, _⟩ | ⟨h, h3⟩ | ⟨h, h3⟩)
            · omega
            · rw [hu] at h3; cases h3
            · rw [hu2] at h3; cases h3)
          have HZ : Hid (Ask.bad 2 ka va 0 0 = 0) := Lib.hid (by rw [Ask.bad, if_neg HKR.out, if_neg H1.out, if_neg H2.out, if_neg (by omega)])
          clear hu hu2
          have HER : Hid (E = Ask.errs l) := Lib.hid (by rw [HE.out, if_neg (by rw [HZ.out]; decide)])
          go_wp2_with fail
          refine Calls.mono (HLK.out _) ?_
          rintro e' W3 ⟨rfl, hl⟩
          have HBB : Hid (Below w.heap.size w W3) := Lib.hid (HBC.out.trans (hl.mono HBC.out.size))
          have e0 := (hl.cell (p := ⟨cx, 0, none⟩) hcx0).trans d0
          have e1 := (hl.cell (p := ⟨cx, 1, none⟩) hcx0).trans d1
          have e2 := (hl.cell (p := ⟨cx, 2, none⟩) hcx0).trans d2
          have e3 := (hl.cell (p := ⟨cx, 3, none⟩) hcx0).trans d3
          have e4 := (hl.cell (p := ⟨cx, 4, none⟩) hcx0).trans d4
          have hcx1 := Nat.lt_of_lt_of_le hcx0 hl.size
          clear d0 d1 d2 d3 d4 hcx0 HBC hl
          have d0 := e0
          have d1 := e1
          have d2 := e2
          have d3 := e3
          have d4 := e4
          have hcx0 := hcx1
          have HBC := HBB
          clear e0 e1 e2 e3 e4 hcx1 HBB
          go_wp2_with fail
          refine Calls.mono (HLV.out _) ?_
          rintro e' W3 ⟨rfl, hl⟩
          have HBB : Hid (Below w.heap.size w W3) := Lib.hid (HBC.out.trans (hl.mono HBC.out.size))
          have e0 := (hl.cell (p := ⟨cx, 0, none⟩) hcx0).trans d0
          have e1 := (hl.cell (p := ⟨cx, 1, none⟩) hcx0).trans d1
          have e2 := (hl.cell (p := ⟨cx, 2, none⟩) hcx0).trans d2
          have e3 := (hl.cell (p := ⟨cx, 3, none⟩) hcx0).trans d3
          have e4 := (hl.cell (p := ⟨cx, 4, none⟩) hcx0).trans d4
          have hcx1 := Nat.lt_of_lt_of_le hcx0 hl.size
          clear d0 d1 d2 d3 d4 hcx0 HBC hl
          have d0 := e0
          have d1 := e1
          have d2 := e2
          have d3 := e3
          have d4 := e4
          have hcx0 := hcx1
          have HBC := HBB
          clear e0 e1 e2 e3 e4 hcx1 HBB
          go_wp2_with fail
          go_loopg [110] 0 (fun g x wr => ∃ j : Nat, j + g = 0 ∧ x = .int .i64 (j : Int) ∧ Hid (Ask.OkTo l j) ∧ Hid (Below w.heap.size w wr))
          case atStart => exact ⟨0, by omega, rfl, Lib.hid (Ask.OkTo.zero l), HBC⟩
          case round =>
            clear d0 d1 d2 d3 d4 hcx0 HBC
            obtain ⟨j, hj, rfl, HO, HB⟩ := hrel
            obtain rfl : j = 0 := by omega
            have HV : Hid ((0 : Int) = E) := Lib.hid (by rw [HER.out]; exact (HO.out.fin (by rw [← HN.out]; exact Nat.le_refl _)).symm)
            go_wp2_with fail
            go_ret
            exact ⟨ret_int HV.out, HB.out⟩
    rcases hks with rfl | hks
    · have HKI : Hid (Ask.inner 3 = 0) := Lib.hid rfl
      go_enter Tryz.func72, Tryz.ntmps72
      go_upto_region 4 with fail
      obtain ⟨W0, hW0⟩ : ∃ W, W = (w.alloc (.cells #[.int .i64 3, .string a1, .string a2, .int .i64 nu, .slice ad n cap] 26)).alloc (.cells #[.int .i64 0, .int .i64 0, .int .i64 0, .int .i64 0, .int .i64 1, .int .i64 2, .int .i64 2] 3) := ⟨_, rfl⟩
      have HBC : Hid (Below w.heap.size w W0) := Lib.hid (by rw [hW0]; exact HB0.out.alloc HB0.out.size _)
      obtain ⟨cx, hcx⟩ : ∃ c, c = w.heap.size := ⟨_, rfl⟩
      have hcx0 : cx < W0.heap.size := by rw [hcx, hW0]; simp <;> omega
      have d0 : W0.cell? ⟨cx, 0, none⟩ = some (.int .i64 3) := by rw [hcx, hW0]; simp
      have d1 : W0.cell? ⟨cx, 1, none⟩ = some (.string a1) := by rw [hcx, hW0]; simp
      have d2 : W0.cell? ⟨cx, 2, none⟩ = some (.string a2) := by rw [hcx, hW0]; simp
      have d3 : W0.cell? ⟨cx, 3, none⟩ = some (.int .i64 nu) := by rw [hcx, hW0]; simp
      have d4 : W0.cell? ⟨cx, 4, none⟩ = some (.slice ad n cap) := by rw [hcx, hW0]; simp
      rw [← hW0, ← hcx]
      clear hW0 hcx HB0
      by_cases hc : n ≠ 0
      · have HV : Hid ((1 : Int) = E) := Lib.hid (HEV.out 1 (by decide) (by rw [Ask.bad, if_neg HKR.out, if_pos (.inl hc)]))
        have hf : ((n : Int) != 0) = true := by simp; omega
        clear hc
        go_wp2_with fail
        go_ret
        exact ⟨ret_int HV.out, HBC.out⟩
      obtain rfl : n = 0 := Decidable.byContradiction hc
      clear hc
      by_cases hc : va ≠ []
      · have HV : Hid ((1 : Int) = E) := Lib.hid (HEV.out 1 (by decide) (by rw [Ask.bad, if_neg HKR.out, if_pos (.inr (.inr (.inl ⟨by decide, hc⟩)))]))
        have hg := isEmpty_no HA2.out hc
        clear hc
        go_wp2_with fail
        go_ret
        exact ⟨ret_int HV.out, HBC.out⟩
      have hva : va = [] := Decidable.byContradiction hc
      clear hc
      obtain rfl := bts_nil HA2.out hva
      have HVA := Lib.hid hva
      clear hva
      have H1 : Hid (¬ ((0 : Nat) ≠ Ask.inner 3 ∨ ((4 : Int) ≤ 3 ∧ ka ≠ []) ∨ ((3 : Int) ≠ 2 ∧ va ≠ []) ∨ ((3 : Int) ≠ 3 ∧ nu ≠ 0))) := Lib.hid (by
        rintro (h | ⟨h, h2⟩ | ⟨h, h2⟩ | ⟨h, h2⟩)
        · exact h rfl
        · exact absurd h (by decide)
        · exact h2 HVA.out
        · exact h rfl)
      cases hu : Ask.unit ka with
      | false =>
        have HV : Hid ((3 : Int) = E) := Lib.hid (HEV.out 3 (by decide) (by rw [Ask.bad, if_neg HKR.out, if_neg H1.out, if_pos (.inl ⟨rfl, hu⟩)]))
        have u1 : ¬ a1.toList = [99, 112, 117] := fun h => by rw [bts_is HA1.out] at h; subst h; cases hu
        have u2 : ¬ a1.toList = [109, 101, 109] := fun h => by rw [bts_is HA1.out] at h; subst h; cases hu
        have u3 : ¬ a1.toList = [103, 112, 117] := fun h => by rw [bts_is HA1.out] at h; subst h; cases hu
        have e1 : (a1.toList != [99, 112, 117]) = true := by simpa using u1
        have e2 : (a1.toList != [109, 101, 109]) = true := by simpa using u2
        have e3 : (a1.toList != [103, 112, 117]) = true := by simpa using u3
        clear hu
        go_wp2_with fail
        go_ret
        exact ⟨ret_int HV.out, HBC.out⟩
      | true =>
        have H2 : Hid (¬ (((3 : Int) = 3 ∧ Ask.unit ka = false) ∨ (((3 : Int) = 1 ∨ (3 : Int) = 2) ∧ lab ka = false) ∨ ((3 : Int) = 2 ∧ lab va = false))) := Lib.hid (by
          rintro (⟨_, h⟩ | ⟨h, _⟩ | ⟨h, _⟩)
          · rw [hu] at h; cases h
          · omega
          · omega)
        have hu3 : a1 = ⟨#[99, 112, 117]⟩ ∨ a1 = ⟨#[109, 101, 109]⟩ ∨ a1 = ⟨#[103, 112, 117]⟩ := by
          rw [← HA1.out]
          unfold Ask.unit at hu
          simp only [Bool.or_eq_true, decide_eq_true_eq] at hu
          rcases hu with (rfl | rfl) | rfl
          · exact .inl rfl
          · exact .inr (.inl rfl)
          · exact .inr (.inr rfl)
        clear hu
        by_cases hc : nu < 0
        · have HV : Hid ((4 : Int) = E) := Lib.hid (HEV.out 4 (by decide) (by rw [Ask.bad, if_neg HKR.out, if_neg H1.out, if_neg H2.out, if_pos (.inl hc)]))
          rcases hu3 with rfl | rfl | rfl
          · go_wp2_with fail
            go_ret
            exact ⟨ret_int HV.out, HBC.out⟩
          · go_wp2_with fail
            go_ret
            exact ⟨ret_int HV.out, HBC.out⟩
          · go_wp2_with fail
            go_ret
            exact ⟨ret_int HV.out, HBC.out⟩
        have hlo : ¬ nu < 0 := hc
        clear hc
        by_cases hc : 1099511627776 < nu
        · have HV : Hid ((4 : Int) = E) := Lib.hid (HEV.out 4 (by decide) (by rw [Ask.bad, if_neg HKR.out, if_neg H1.out, if_neg H2.out, if_pos (.inr hc)]))
          rcases hu3 with rfl | rfl | rfl
          · go_wp2_with fail
            go_ret
            exact ⟨ret_int HV.out, HBC.out⟩
          · go_wp2_with fail
            go_ret
            exact ⟨ret_int HV.out, HBC.out⟩
          · go_wp2_with fail
            go_ret
            exact ⟨ret_int HV.out, HBC.out⟩
        have hhi : ¬ 1099511627776 < nu := hc
        clear hc
        have HZ : Hid (Ask.bad 3 ka va nu 0 = 0) := Lib.hid (by rw [Ask.bad, if_neg HKR.out, if_neg H1.out, if_neg H2.out, if_neg (by omega)])
        have HER : Hid (E = Ask.errs l) := Lib.hid (by rw [HE.out, if_neg (by rw [HZ.out]; decide)])
        rcases hu3 with rfl | rfl | rfl
        · go_wp2_with fail
          go_loopg [110] 0 (fun g x wr => ∃ j : Nat, j + g = 0 ∧ x = .int .i64 (j : Int) ∧ Hid (Ask.OkTo l j) ∧ Hid (Below w.heap.size w wr))
          case atStart => exact ⟨0, by omega, rfl, Lib.hid (Ask.OkTo.zero l), HBC⟩
          case round =>
            clear d0 d1 d2 d3 d4 hcx0 HBC
            obtain ⟨j, hj, rfl, HO, HB⟩ := hrel
            obtain rfl : j = 0 := by omega
            have HV : Hid ((0 : Int) = E) := Lib.hid (by rw [HER.out]; exact (HO.out.fin (by rw [← HN.out]; exact Nat.le_refl _)).symm)
            go_wp2_with fail
            go_ret
            exact ⟨ret_int HV.out, HB.out⟩
        · go_wp2_with fail
          go_loopg [110] 0 (fun g x wr => ∃ j : Nat, j + g = 0 ∧ x = .int .i64 (j : Int) ∧ Hid (Ask.OkTo l j) ∧ Hid (Below w.heap.size w wr))
          case atStart => exact ⟨0, by omega, rfl, Lib.hid (Ask.OkTo.zero l), HBC⟩
          case round =>
            clear d0 d1 d2 d3 d4 hcx0 HBC
            obtain ⟨j, hj, rfl, HO, HB⟩ := hrel
            obtain rfl : j = 0 := by omega
            have HV : Hid ((0 : Int) = E) := Lib.hid (by rw [HER.out]; exact (HO.out.fin (by rw [← HN.out]; exact Nat.le_refl _)).symm)
            go_wp2_with fail
            go_ret
            exact ⟨ret_int HV.out, HB.out⟩
        · go_wp2_with fail
          go_loopg [110] 0 (fun g x wr => ∃ j : Nat, j + g = 0 ∧ x = .int .i64 (j : Int) ∧ Hid (Ask.OkTo l j) ∧ Hid (Below w.heap.size w wr))
          case atStart => exact ⟨0, by omega, rfl, Lib.hid (Ask.OkTo.zero l), HBC⟩
          case round =>
            clear d0 d1 d2 d3 d4 hcx0 HBC
            obtain ⟨j, hj, rfl, HO, HB⟩ := hrel
            obtain rfl : j = 0 := by omega
            have HV : Hid ((0 : Int) = E) := Lib.hid (by rw [HER.out]; exact (HO.out.fin (by rw [← HN.out]; exact Nat.le_refl _)).symm)
            go_wp2_with fail
            go_ret
            exact ⟨ret_int HV.out, HB.out⟩
    rcases hks with rfl | hks
    · have HKI : Hid (Ask.inner 4 = 1) := Lib.hid rfl
      go_enter Tryz.func72, Tryz.ntmps72
      go_upto_region 4 with fail
      obtain ⟨W0, hW0⟩ : ∃ W, W = (w.alloc (.cells #[.int .i64 4, .string a1, .string a2, .int .i64 nu, .slice ad n cap] 26)).alloc (.cells #[.int .i64 0, .int .i64 0, .int .i64 0, .int .i64 0, .int .i64 1, .int .i64 2, .int .i64 2] 3) := ⟨_, rfl⟩
      have HBC : Hid (Below w.heap.size w W0) := Lib.hid (by rw [hW0]; exact HB0.out.alloc HB0.out.size _)
      obtain ⟨cx, hcx⟩ : ∃ c, c = w.heap.size := ⟨_, rfl⟩
      have hcx0 : cx < W0.heap.size := by rw [hcx, hW0]; simp <;> omega
      have d0 : W0.cell? ⟨cx, 0, none⟩ = some (.int .i64 4) := by rw [hcx, hW0]; simp
      have d1 : W0.cell? ⟨cx, 1, none⟩ = some (.string a1) := by rw [hcx, hW0]; simp
      have d2 : W0.cell? ⟨cx, 2, none⟩ = some (.string a2) := by rw [hcx, hW0]; simp
      have d3 : W0.cell? ⟨cx, 3, none⟩ = some (.int .i64 nu) := by rw [hcx, hW0]; simp
      have d4 : W0.cell? ⟨cx, 4, none⟩ = some (.slice ad n cap) := by rw [hcx, hW0]; simp
      rw [← hW0, ← hcx]
      clear hW0 hcx HB0
      by_cases hc : n ≠ 1
      · have HV : Hid ((1 : Int) = E) := Lib.hid (HEV.out 1 (by decide) (by rw [Ask.bad, if_neg HKR.out, if_pos (.inl hc)]))
        have hf : ((n : Int) != 1) = true := by simp; omega
        clear hc
        go_wp2_with fail
        go_ret
        exact ⟨ret_int HV.out, HBC.out⟩
      obtain rfl : n = 1 := Decidable.byContradiction hc
      clear hc
      by_cases hc : ka ≠ []
      · have HV : Hid ((1 : Int) = E) := Lib.hid (HEV.out 1 (by decide) (by rw [Ask.bad, if_neg HKR.out, if_pos (.inr (.inl ⟨by decide, hc⟩))]))
        have hg := isEmpty_no HA1.out hc
        clear hc
        go_wp2_with fail
        go_ret
        exact ⟨ret_int HV.out, HBC.out⟩
      have hka : ka = [] := Decidable.byContradiction hc
      clear hc
      obtain rfl := bts_nil HA1.out hka
      have HKA := Lib.hid hka
      clear hka
      by_cases hc : va ≠ []
      · have HV : Hid ((1 : Int) = E) := Lib.hid (HEV.out 1 (by decide) (by rw [Ask.bad, if_neg HKR.out, if_pos (.inr (.inr (.inl ⟨by decide, hc⟩)))]))
        have hg := isEmpty_no HA2.out hc
        clear hc
        go_wp2_with fail
        go_ret
        exact ⟨ret_int HV.out, HBC.out⟩
      have hva : va = [] := Decidable.byContradiction hc
      clear hc
      obtain rfl := bts_nil HA2.out hva
      have HVA := Lib.hid hva
      clear hva
      by_cases hc : nu ≠ 0
      · have HV : Hid ((1 : Int) = E) := Lib.hid (HEV.out 1 (by decide) (by rw [Ask.bad, if_neg HKR.out, if_pos (.inr (.inr (.inr ⟨by decide, hc⟩)))]))
        have hg : (nu != 0) = true := by simpa using hc
        clear hc
        go_wp2_with fail
        go_ret
        exact ⟨ret_int HV.out, HBC.out⟩
      obtain rfl : nu = 0 := Decidable.byContradiction hc
      clear hc
      have H1 : Hid (¬ ((1 : Nat) ≠ Ask.inner 4 ∨ ((4 : Int) ≤ 4 ∧ ka ≠ []) ∨ ((4 : Int) ≠ 2 ∧ va ≠ []) ∨ ((4 : Int) ≠ 3 ∧ (0 : Int) ≠ 0))) := Lib.hid (by
        rintro (h | ⟨h, h2⟩ | ⟨h, h2⟩ | ⟨h, h2⟩)
        · exact h rfl
        · exact h2 HKA.out
        · exact h2 HVA.out
        · exact h2 rfl)
      have H2 : Hid (¬ (((4 : Int) = 3 ∧ Ask.unit ka = false) ∨ (((4 : Int) = 1 ∨ (4 : Int) = 2) ∧ lab ka = false) ∨ ((4 : Int) = 2 ∧ lab va = false))) := Lib.hid (by
        rintro (⟨h, _⟩ | ⟨h, h3⟩ | ⟨h, h3⟩)
        · omega
        · omega
        · omega)
      have HZ : Hid (Ask.bad 4 ka va 0 1 = 0) := Lib.hid (by rw [Ask.bad, if_neg HKR.out, if_neg H1.out, if_neg H2.out, if_neg (by omega)])
      have HER : Hid (E = Ask.errs l) := Lib.hid (by rw [HE.out, if_neg (by rw [HZ.out]; decide)])
      go_wp2_with fail
      go_loopg [110] 1 (fun g x wr => ∃ j : Nat, j + g = 1 ∧ x = .int .i64 (j : Int) ∧ Hid (Ask.OkTo l j) ∧ Hid (Below w.heap.size w wr))
      case atStart => exact ⟨0, by omega, rfl, Lib.hid (Ask.OkTo.zero l), HBC⟩
      case round =>
        clear d0 d1 d2 d3 d4 hcx0 HBC
        obtain ⟨j, hj, rfl, HO, HB⟩ := hrel
        by_cases hjn : j < 1
        · obtain ⟨y, hy⟩ : ∃ y, l[j]? = some y := ⟨_, List.getElem?_eq_getElem (by rw [← HN.out]; exact hjn)⟩
          obtain ⟨bl, off, rfl, hb, hat⟩ := HR.out (by omega)
          obtain ⟨ad', len', cap', c0, c1, c2, c3, c4, hyv⟩ := (AsksV.below HB.out l bl off hb hat).get hy
          have hbr : bl < wr.heap.size := Nat.lt_of_lt_of_le hb HB.out.size
          have hj1 : (0 : Int) ≤ (j : Int) := by omega
          have hj2 : (j : Int) < 1 := by omega
          have hs1 := Ask.sizes_at hy
          have HY := Lib.hid hy
          obtain ⟨E2, hE2⟩ : ∃ E, y.err = E := ⟨_, rfl⟩
          obtain ⟨k1, hk1⟩ : ∃ a, bts y.key = a := ⟨_, rfl⟩
          obtain ⟨k2, hk2⟩ : ∃ a, bts y.val = a := ⟨_, rfl⟩
          obtain ⟨k0, hk0⟩ : ∃ a, y.kind = a := ⟨_, rfl⟩
          obtain ⟨k3, hk3⟩ : ∃ a, y.num = a := ⟨_, rfl⟩
          rw [hk0] at c0 hyv
          rw [hk1] at c1 hyv
          rw [hk2] at c2 hyv
          rw [hk3] at c3 hyv
          obtain ⟨wx, hwx⟩ : ∃ wx, wx = wr.alloc (.cells #[.int .i64 k0, .string k1, .string k2, .int .i64 k3, .slice ad' len' cap'] 26) := ⟨_, rfl⟩
          have hb9 : Below wr.heap.size wr wx := by rw [hwx]; exact (Below.refl _ _).alloc (Nat.le_refl _) _
          have HBX : Hid (Below w.heap.size w wx) := Lib.hid (HB.out.trans (hb9.mono HB.out.size))
          have HC := Lib.hid (HIH.out y _ wx (by omega) (AskV.below hb9 _ _ hyv))
          rw [hE2] at HC
          have HE2 := Lib.hid hE2
          clear hat hy hyv hE2 hk0 hk1 hk2 hk3 hb9
          by_cases he : E2 = 0
          · have HQ := Lib.hid (HO.out.succ HY.out (HE2.out.trans he))
            subst he
            go_wp2_with fail
            rw [← hwx]
            refine Calls.mono HC.out ?_
            rintro e' W3 ⟨rfl, h1⟩
            have HB3 := Lib.hid (HBX.out.trans (h1.mono HBX.out.size))
            clear h1
            go_wp2_with fail
            go_roundg (1 - (j + 1))
            case measure => omega
            case rel => exact ⟨j + 1, by omega, by simp, HQ, HB3⟩
          · have HV : Hid (E2 = E) := Lib.hid (by rw [HER.out, HO.out.bad HY.out (by rw [HE2.out]; exact he), HE2.out])
            have he2 : (E2 != 0) = true := by simpa using he
            go_wp2_with fail
            rw [← hwx]
            refine Calls.mono HC.out ?_
            rintro e' W3 ⟨rfl, h1⟩
            have HB3 := Lib.hid (HBX.out.trans (h1.mono HBX.out.size))
            clear h1
            go_wp2_with fail
            go_ret
            exact ⟨ret_int HV.out, HB3.out⟩
        · obtain rfl : j = 1 := by omega
          have HV : Hid ((0 : Int) = E) := Lib.hid (by rw [HER.out]; exact (HO.out.fin (by rw [← HN.out]; exact Nat.le_refl _)).symm)
          go_wp2_with fail
          go_ret
          exact ⟨ret_int HV.out, HB.out⟩
    rcases hks with rfl | hks
    · have HKI : Hid (Ask.inner 5 = 2) := Lib.hid rfl
      go_enter Tryz.func72, Tryz.ntmps72
      go_upto_region 4 with fail
      obtain ⟨W0, hW0⟩ : ∃ W, W = (w.alloc (.cells #[.int .i64 5, .string a1, .string a2, .int .i64 nu, .slice ad n cap] 26)).alloc (.cells #[.int .i64 0, .int .i64 0, .int .i64 0, .int .i64 0, .int .i64 1, .int .i64 2, .int .i64 2] 3) := ⟨_, rfl⟩
      have HBC : Hid (Below w.heap.size w W0) := Lib.hid (by rw [hW0]; exact HB0.out.alloc HB0.out.size _)
      obtain ⟨cx, hcx⟩ : ∃ c, c = w.heap.size := ⟨_, rfl⟩
      have hcx0 : cx < W0.heap.size := by rw [hcx, hW0]; simp <;> omega
      have d0 : W0.cell? ⟨cx, 0, none⟩ = some (.int .i64 5) := by rw [hcx, hW0]; simp
      have d1 : W0.cell? ⟨cx, 1, none⟩ = some (.string a1) := by rw [hcx, hW0]; simp
      have d2 : W0.cell? ⟨cx, 2, none⟩ = some (.string a2) := by rw [hcx, hW0]; simp
      have d3 : W0.cell? ⟨cx, 3, none⟩ = some (.int .i64 nu) := by rw [hcx, hW0]; simp
      have d4 : W0.cell? ⟨cx, 4, none⟩ = some (.slice ad n cap) := by rw [hcx, hW0]; simp
      rw [← hW0, ← hcx]
      clear hW0 hcx HB0
      by_cases hc : n ≠ 2
      · have HV : Hid ((1 : Int) = E) := Lib.hid (HEV.out 1 (by decide) (by rw [Ask.bad, if_neg HKR.out, if_pos (.inl hc)]))
        have hf : ((n : Int) != 2) = true := by simp; omega
        clear hc
        go_wp2_with fail
        go_ret
        exact ⟨ret_int HV.out, HBC.out⟩
      obtain rfl : n = 2 := Decidable.byContradiction hc
      clear hc
      by_cases hc : ka ≠ []
      · have HV : Hid ((1 : Int) = E) := Lib.hid (HEV.out 1 (by decide) (by rw [Ask.bad, if_neg HKR.out, if_pos (.inr (.inl ⟨by decide, hc⟩))]))
        have hg := isEmpty_no HA1.out hc
        clear hc
        go_wp2_with fail
        go_ret
        exact ⟨ret_int HV.out, HBC.out⟩
      have hka : ka = [] := Decidable.byContradiction hc
      clear hc
      obtain rfl := bts_nil HA1.out hka
      have HKA := Lib.hid hka
      clear hka
      by_cases hc : va ≠ []
      · have HV : Hid ((1 : Int) = E) := Lib.hid (HEV.out 1 (by decide) (by rw [Ask.bad, if_neg HKR.out, if_pos (.inr (.inr (.inl ⟨by decide, hc⟩)))]))
        have hg := isEmpty_no HA2.out hc
        clear hc
        go_wp2_with fail
        go_ret
        exact ⟨ret_int HV.out, HBC.out⟩
      have hva : va = [] := Decidable.byContradiction hc
      clear hc
      obtain rfl := bts_nil HA2.out hva
      have HVA := Lib.hid hva
      clear hva
      by_cases hc : nu ≠ 0
      · have HV : Hid ((1 : Int) = E) := Lib.hid (HEV.out 1 (by decide) (by rw [Ask.bad, if_neg HKR.out, if_pos (.inr (.inr (.inr ⟨by decide, hc⟩)))]))
        have hg : (nu != 0) = true := by simpa using hc
        clear hc
        go_wp2_with fail
        go_ret
        exact ⟨ret_int HV.out, HBC.out⟩
      obtain rfl : nu = 0 := Decidable.byContradiction hc
      clear hc
      have H1 : Hid (¬ ((2 : Nat) ≠ Ask.inner 5 ∨ ((4 : Int) ≤ 5 ∧ ka ≠ []) ∨ ((5 : Int) ≠ 2 ∧ va ≠ []) ∨ ((5 : Int) ≠ 3 ∧ (0 : Int) ≠ 0))) := Lib.hid (by
        rintro (h | ⟨h, h2⟩ | ⟨h, h2⟩ | ⟨h, h2⟩)
        · exact h rfl
        · exact h2 HKA.out
        · exact h2 HVA.out
        · exact h2 rfl)
      have H2 : Hid (¬ (((5 : Int) = 3 ∧ Ask.unit ka = false) ∨ (((5 : Int) = 1 ∨ (5 : Int) = 2) ∧ lab ka = false) ∨ ((5 : Int) = 2 ∧ lab va = false))) := Lib.hid (by
        rintro (⟨h, _⟩ | ⟨h, h3⟩ | ⟨h, h3⟩)
        · omega
        · omega
        · omega)
      have HZ : Hid (Ask.bad 5 ka va 0 2 = 0) := Lib.hid (by rw [Ask.bad, if_neg HKR.out, if_neg H1.out, if_neg H2.out, if_neg (by omega)])
      have HER : Hid (E = Ask.errs l) := Lib.hid (by rw [HE.out, if_neg (by rw [HZ.out]; decide)])
      go_wp2_with fail
      go_loopg [110] 2 (fun g x wr => ∃ j : Nat, j + g = 2 ∧ x = .int .i64 (j : Int) ∧ Hid (Ask.OkTo l j) ∧ Hid (Below w.heap.size w wr))
      case atStart => exact ⟨0, by omega, rfl, Lib.hid (Ask.OkTo.zero l), HBC⟩
      case round =>
        clear d0 d1 d2 d3 d4 hcx0 HBC
        obtain ⟨j, hj, rfl, HO, HB⟩ := hrel
        by_cases hjn : j < 2
        · obtain ⟨y, hy⟩ : ∃ y, l[j]? = some y := ⟨_, List.getElem?_eq_getElem (by rw [← HN.out]; exact hjn)⟩
          obtain ⟨bl, off, rfl, hb, hat⟩ := HR.out (by omega)
          obtain ⟨ad', len', cap', c0, c1, c2, c3, c4, hyv⟩ := (AsksV.below HB.out l bl off hb hat).get hy
          have hbr : bl < wr.heap.size := Nat.lt_of_lt_of_le hb HB.out.size
          have hj1 : (0 : Int) ≤ (j : Int) := by omega
          have hj2 : (j : Int) < 2 := by omega
          have hs1 := Ask.sizes_at hy
          have HY := Lib.hid hy
          obtain ⟨E2, hE2⟩ : ∃ E, y.err = E := ⟨_, rfl⟩
          obtain ⟨k1, hk1⟩ : ∃ a, bts y.key = a := ⟨_, rfl⟩
          obtain ⟨k2, hk2⟩ : ∃ a, bts y.val = a := ⟨_, rfl⟩
          obtain ⟨k0, hk0⟩ : ∃ a, y.kind = a := ⟨_, rfl⟩
          obtain ⟨k3, hk3⟩ : ∃ a, y.num = a := ⟨_, rfl⟩
          rw [hk0] at c0 hyv
          rw [hk1] at c1 hyv
          rw [hk2] at c2 hyv
          rw [hk3] at c3 hyv
          obtain ⟨wx, hwx⟩ : ∃ wx, wx = wr.alloc (.cells #[.int .i64 k0, .string k1, .string k2, .int .i64 k3, .slice ad' len' cap'] 26) := ⟨_, rfl⟩
          have hb9 : Below wr.heap.size wr wx := by rw [hwx]; exact (Below.refl _ _).alloc (Nat.le_refl _) _
          have HBX : Hid (Below w.heap.size w wx) := Lib.hid (HB.out.trans (hb9.mono HB.out.size))
          have HC := Lib.hid (HIH.out y _ wx (by omega) (AskV.below hb9 _ _ hyv))
          rw [hE2] at HC
          have HE2 := Lib.hid hE2
          clear hat hy hyv hE2 hk0 hk1 hk2 hk3 hb9
          by_cases he : E2 = 0
          · have HQ := Lib.hid (HO.out.succ HY.out (HE2.out.trans he))
            subst he
            go_wp2_with fail
            rw [← hwx]
            refine Calls.mono HC.out ?_
            rintro e' W3 ⟨rfl, h1⟩
            have HB3 := Lib.hid (HBX.out.trans (h1.mono HBX.out.size))
            clear h1
            go_wp2_with fail
            go_roundg (2 - (j + 1))
            case measure => omega
            case rel => exact ⟨j + 1, by omega, by simp, HQ, HB3⟩
          · have HV : Hid (E2 = E) := Lib.hid (by rw [HER.out, HO.out.bad HY.out (by rw [HE2.out]; exact he), HE2.out])
            have he2 : (E2 != 0) = true := by simpa using he
            go_wp2_with fail
            rw [← hwx]
            refine Calls.mono HC.out ?_
            rintro e' W3 ⟨rfl, h1⟩
            have HB3 := Lib.hid (HBX.out.trans (h1.mono HBX.out.size))
            clear h1
            go_wp2_with fail
            go_ret
            exact ⟨ret_int HV.out, HB3.out⟩
        · obtain rfl : j = 2 := by omega
          have HV : Hid ((0 : Int) = E) := Lib.hid (by rw [HER.out]; exact (HO.out.fin (by rw [← HN.out]; exact Nat.le_refl _)).symm)
          go_wp2_with fail
          go_ret
          exact ⟨ret_int HV.out, HB.out⟩
    obtain rfl := hks
    go_enter Tryz.func72, Tryz.ntmps72
    go_upto_region 4 with fail
    obtain ⟨W0, hW0⟩ : ∃ W, W = (w.alloc (.cells #[.int .i64 6, .string a1, .string a2, .int .i64 nu, .slice ad n cap] 26)).alloc (.cells #[.int .i64 0, .int .i64 0, .int .i64 0, .int .i64 0, .int .i64 1, .int .i64 2, .int .i64 2] 3) := ⟨_, rfl⟩
    have HBC : Hid (Below w.heap.size w W0) := Lib.hid (by rw [hW0]; exact HB0.out.alloc HB0.out.size _)
    obtain ⟨cx, hcx⟩ : ∃ c, c = w.heap.size := ⟨_, rfl⟩
    have hcx0 : cx < W0.heap.size := by rw [hcx, hW0]; simp <;> omega
    have d0 : W0.cell? ⟨cx, 0, none⟩ = some (.int .i64 6) := by rw [hcx, hW0]; simp
    have d1 : W0.cell? ⟨cx, 1, none⟩ = some (.string a1) := by rw [hcx, hW0]; simp
    have d2 : W0.cell? ⟨cx, 2, none⟩ = some (.string a2) := by rw [hcx, hW0]; simp
    have d3 : W0.cell? ⟨cx, 3, none⟩ = some (.int .i64 nu) := by rw [hcx, hW0]; simp
    have d4 : W0.cell? ⟨cx, 4, none⟩ = some (.slice ad n cap) := by rw [hcx, hW0]; simp
    rw [← hW0, ← hcx]
    clear hW0 hcx HB0
    by_cases hc : n ≠ 2
    · have HV : Hid ((1 : Int) = E) := Lib.hid (HEV.out 1 (by decide) (by rw [Ask.bad, if_neg HKR.out, if_pos (.inl hc)]))
      have hf : ((n : Int) != 2) = true := by simp; omega
      clear hc
      go_wp2_with fail
      go_ret
      exact ⟨ret_int HV.out, HBC.out⟩
    obtain rfl : n = 2 := Decidable.byContradiction hc
    clear hc
    by_cases hc : ka ≠ []
    · have HV : Hid ((1 : Int) = E) := Lib.hid (HEV.out 1 (by decide) (by rw [Ask.bad, if_neg HKR.out, if_pos (.inr (.inl ⟨by decide, hc⟩))]))
      have hg := isEmpty_no HA1.out hc
      clear hc
      go_wp2_with fail
      go_ret
      exact ⟨ret_int HV.out, HBC.out⟩
    have hka : ka = [] := Decidable.byContradiction hc
    clear hc
    obtain rfl := bts_nil HA1.out hka
    have HKA := Lib.hid hka
    clear hka
    by_cases hc : va ≠ []
    · have HV : Hid ((1 : Int) = E) := Lib.hid (HEV.out 1 (by decide) (by rw [Ask.bad, if_neg HKR.out, if_pos (.inr (.inr (.inl ⟨by decide, hc⟩)))]))
      have hg := isEmpty_no HA2.out hc
      clear hc
      go_wp2_with fail
      go_ret
      exact ⟨ret_int HV.out, HBC.out⟩
    have hva : va = [] := Decidable.byContradiction hc
    clear hc
    obtain rfl := bts_nil HA2.out hva
    have HVA := Lib.hid hva
    clear hva
    by_cases hc : nu ≠ 0
    · have HV : Hid ((1 : Int) = E) := Lib.hid (HEV.out 1 (by decide) (by rw [Ask.bad, if_neg HKR.out, if_pos (.inr (.inr (.inr ⟨by decide, hc⟩)))]))
      have hg : (nu != 0) = true := by simpa using hc
      clear hc
      go_wp2_with fail
      go_ret
      exact ⟨ret_int HV.out, HBC.out⟩
    obtain rfl : nu = 0 := Decidable.byContradiction hc
    clear hc
    have H1 : Hid (¬ ((2 : Nat) ≠ Ask.inner 6 ∨ ((4 : Int) ≤ 6 ∧ ka ≠ []) ∨ ((6 : Int) ≠ 2 ∧ va ≠ []) ∨ ((6 : Int) ≠ 3 ∧ (0 : Int) ≠ 0))) := Lib.hid (by
      rintro (h | ⟨h, h2⟩ | ⟨h, h2⟩ | ⟨h, h2⟩)
      · exact h rfl
      · exact h2 HKA.out
      · exact h2 HVA.out
      · exact h2 rfl)
    have H2 : Hid (¬ (((6 : Int) = 3 ∧ Ask.unit ka = false) ∨ (((6 : Int) = 1 ∨ (6 : Int) = 2) ∧ lab ka = false) ∨ ((6 : Int) = 2 ∧ lab va = false))) := Lib.hid (by
      rintro (⟨h, _⟩ | ⟨h, h3⟩ | ⟨h, h3⟩)
      · omega
      · omega
      · omega)
    have HZ : Hid (Ask.bad 6 ka va 0 2 = 0) := Lib.hid (by rw [Ask.bad, if_neg HKR.out, if_neg H1.out, if_neg H2.out, if_neg (by omega)])
    have HER : Hid (E = Ask.errs l) := Lib.hid (by rw [HE.out, if_neg (by rw [HZ.out]; decide)])
    go_wp2_with fail
    go_loopg [110] 2 (fun g x wr => ∃ j : Nat, j + g = 2 ∧ x = .int .i64 (j : Int) ∧ Hid (Ask.OkTo l j) ∧ Hid (Below w.heap.size w wr))
    case atStart => exact ⟨0, by omega, rfl, Lib.hid (Ask.OkTo.zero l), HBC⟩
    case round =>
      clear d0 d1 d2 d3 d4 hcx0 HBC
      obtain ⟨j, hj, rfl, HO, HB⟩ := hrel
      by_cases hjn : j < 2
      · obtain ⟨y, hy⟩ : ∃ y, l[j]? = some y := ⟨_, List.getElem?_eq_getElem (by rw [← HN.out]; exact hjn)⟩
        obtain ⟨bl, off, rfl, hb, hat⟩ := HR.out (by omega)
        obtain ⟨ad', len', cap', c0, c1, c2, c3, c4, hyv⟩ := (AsksV.below HB.out l bl off hb hat).get hy
        have hbr : bl < wr.heap.size := Nat.lt_of_lt_of_le hb HB.out.size
        have hj1 : (0 : Int) ≤ (j : Int) := by omega
        have hj2 : (j : Int) < 2 := by omega
        have hs1 := Ask.sizes_at hy
        have HY := Lib.hid hy
        obtain ⟨E2, hE2⟩ : ∃ E, y.err = E := ⟨_, rfl⟩
        obtain ⟨k1, hk1⟩ : ∃ a, bts y.key = a := ⟨_, rfl⟩
        obtain ⟨k2, hk2⟩ : ∃ a, bts y.val = a := ⟨_, rfl⟩
        obtain ⟨k0, hk0⟩ : ∃ a, y.kind = a := ⟨_, rfl⟩
        obtain ⟨k3, hk3⟩ : ∃ a, y.num = a := ⟨_, rfl⟩
        rw [hk0] at c0 hyv
        rw [hk1] at c1 hyv
        rw [hk2] at c2 hyv
        rw [hk3] at c3 hyv
        obtain ⟨wx, hwx⟩ : ∃ wx, wx = wr.alloc (.cells #[.int .i64 k0, .string k1, .string k2, .int .i64 k3, .slice ad' len' cap'] 26) := ⟨_, rfl⟩
        have hb9 : Below wr.heap.size wr wx := by rw [hwx]; exact (Below.refl _ _).alloc (Nat.le_refl _) _
        have HBX : Hid (Below w.heap.size w wx) := Lib.hid (HB.out.trans (hb9.mono HB.out.size))
        have HC := Lib.hid (HIH.out y _ wx (by omega) (AskV.below hb9 _ _ hyv))
        rw [hE2] at HC
        have HE2 := Lib.hid hE2
        clear hat hy hyv hE2 hk0 hk1 hk2 hk3 hb9
        by_cases he : E2 = 0
        · have HQ := Lib.hid (HO.out.succ HY.out (HE2.out.trans he))
          subst he
          go_wp2_with fail
          rw [← hwx]
          refine Calls.mono HC.out ?_
          rintro e' W3 ⟨rfl, h1⟩
          have HB3 := Lib.hid (HBX.out.trans (h1.mono HBX.out.size))
          clear h1
          go_wp2_with fail
          go_roundg (2 - (j + 1))
          case measure => omega
          case rel => exact ⟨j + 1, by omega, by simp, HQ, HB3⟩
        · have HV : Hid (E2 = E) := Lib.hid (by rw [HER.out, HO.out.bad HY.out (by rw [HE2.out]; exact he), HE2.out])
          have he2 : (E2 != 0) = true := by simpa using he
          go_wp2_with fail
          rw [← hwx]
          refine Calls.mono HC.out ?_
          rintro e' W3 ⟨rfl, h1⟩
          have HB3 := Lib.hid (HBX.out.trans (h1.mono HBX.out.size))
          clear h1
          go_wp2_with fail
          go_ret
          exact ⟨ret_int HV.out, HB3.out⟩
      · obtain rfl : j = 2 := by omega
        have HV : Hid ((0 : Int) = E) := Lib.hid (by rw [HER.out]; exact (HO.out.fin (by rw [← HN.out]; exact Nat.le_refl _)).symm)
        go_wp2_with fail
        go_ret
        exact ⟨ret_int HV.out, HB.out⟩
theorem askErr_any (x : Ask) (v : Value) (w : World) (hv : AskV w x v) : Calls Tryz.prog 72 #[v] w fun e w' => e = .returned (.int .i64 x.err) ∧ Below w.heap.size w w' := askErr_all x.size x v w (Nat.le_refl _) hv
set_option maxRecDepth 20000 in
set_option maxHeartbeats 4000000 in
theorem AskFault_any (x : Ask) (v : Value) (w : World) (hs : x.size ≤ 1000000000) (hv : AskV w x v) : Calls Tryz.prog 37 #[v] w fun e w' => e = .returned (.int .i64 x.fault) ∧ Below w.heap.size w w' := by
  obtain ⟨s, hss⟩ : ∃ s, x.size = s := ⟨_, rfl⟩
  have HS := Lib.hid hss
  have hv2 := hv
  cases x with
  | mk k ka va nu l =>
  rw [AskV] at hv
  obtain ⟨ad, n, cap, rfl, hrest⟩ := hv
  clear hrest
  have hb9 : Below w.heap.size w (w.alloc (.cells #[.int .i64 k, .string (bts ka), .string (bts va), .int .i64 nu, .slice ad n cap] 26)) := (Below.refl _ _).alloc (Nat.le_refl _) _
  have HB9 := Lib.hid hb9
  have HCN := Lib.hid (askSize_any _ _ _ hs (AskV.below hb9 _ _ hv2))
  have HV2 := Lib.hid (AskV.below hb9 _ _ hv2)
  rw [hss] at HCN
  obtain ⟨x, hx⟩ : ∃ x, Ask.mk k ka va nu l = x := ⟨_, rfl⟩
  rw [hx] at HS HV2 ⊢
  obtain ⟨a1, ha1⟩ : ∃ a, bts ka = a := ⟨_, rfl⟩
  obtain ⟨a2, ha2⟩ : ∃ a, bts va = a := ⟨_, rfl⟩
  rw [ha1, ha2] at HB9 HCN HV2 ⊢
  clear hv2 hss hx hb9 ha1 ha2
  by_cases hbig : 60 < s
  · have HV : Hid ((2 : Int) = x.fault) := Lib.hid (by rw [Ask.fault, if_pos (by rw [HS.out]; exact hbig)])
    have hb : (s : Int) > 60 := by omega
    go_enter Tryz.func37, Tryz.ntmps37
    go_wp2_with fail
    refine Calls.mono HCN.out ?_
    rintro e' W3 ⟨rfl, h1⟩
    have HB3 := Lib.hid (HB9.out.trans (h1.mono HB9.out.size))
    clear h1
    go_wp2_with fail
    go_ret
    exact ⟨ret_int HV.out, HB3.out⟩
  · have HV : Hid (x.err = x.fault) := Lib.hid (by rw [Ask.fault, if_neg (by rw [HS.out]; exact hbig)])
    have hb : ¬ (s : Int) > 60 := by omega
    go_enter Tryz.func37, Tryz.ntmps37
    go_wp2_with fail
    refine Calls.mono HCN.out ?_
    rintro e' W3 ⟨rfl, h1⟩
    have HB3 := Lib.hid (HB9.out.trans (h1.mono HB9.out.size))
    have HC2 := Lib.hid (askErr_any x _ W3 (AskV.below h1 _ _ HV2.out))
    have d0 : W3.cell? ⟨w.heap.size, 0, none⟩ = some (.int .i64 k) := (h1.cell (p := ⟨w.heap.size, 0, none⟩) (by simp)).trans (by simp)
    have d1 : W3.cell? ⟨w.heap.size, 1, none⟩ = some (.string a1) := (h1.cell (p := ⟨w.heap.size, 1, none⟩) (by simp)).trans (by simp)
    have d2 : W3.cell? ⟨w.heap.size, 2, none⟩ = some (.string a2) := (h1.cell (p := ⟨w.heap.size, 2, none⟩) (by simp)).trans (by simp)
    have d3 : W3.cell? ⟨w.heap.size, 3, none⟩ = some (.int .i64 nu) := (h1.cell (p := ⟨w.heap.size, 3, none⟩) (by simp)).trans (by simp)
    have d4 : W3.cell? ⟨w.heap.size, 4, none⟩ = some (.slice ad n cap) := (h1.cell (p := ⟨w.heap.size, 4, none⟩) (by simp)).trans (by simp)
    clear h1
    go_wp2_with fail
    refine Calls.mono HC2.out ?_
    rintro e' W4 ⟨rfl, h1⟩
    have HB4 := Lib.hid (HB3.out.trans (h1.mono HB3.out.size))
    clear h1
    go_wp2_with fail
    go_ret
    exact ⟨ret_int HV.out, HB4.out⟩
end Go.Proofs.YtkemlckmfgacdaaGreatDoor
