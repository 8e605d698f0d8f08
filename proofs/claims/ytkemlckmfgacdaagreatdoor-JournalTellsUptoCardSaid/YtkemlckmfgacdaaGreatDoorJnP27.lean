/- Contract: the document's reader of an ask: a '!' and an ask. -/
import Derived.Test.YtkemlckmfgacdaaGreatDoorJnP26
set_option linter.unusedVariables false
set_option linter.unusedSimpArgs false
namespace Go.Proofs.YtkemlckmfgacdaaGreatDoor
set_option maxRecDepth 20000
set_option maxHeartbeats 64000000
open Go.ChangeShapes Go.WideShapes Go.ChangeAt Go.RowKit
open Tp
def notR (o : Option (Ask × Bs)) : Option (Ask × Bs) := match o with | none => none | some (y, r) => some (Ask.mk 4 [] [] 0 [y], r)
theorem askR_not' (N : Nat) (t : Bs) : Ar.askR (N + 1) (33 :: t) = notR (Ar.askR N t) := askR_not N t
theorem askAt_not (N : Nat) (t : Bs) (w : World) (hN : N < 61) (hs : t.length ≤ 1999) (hA : ∀ W, Calls Tryz.prog 76 #[.string (bts t), .int .i64 (N : Int)] W (AskAtQ W (Ar.askR N t))) : Calls Tryz.prog 76 #[.string (bts (33 :: t)), .int .i64 ((N + 1 : Nat) : Int)] w (AskAtQ w (Ar.askR (N + 1) (33 :: t))) := by
 rw [askR_not']
 obtain ⟨S, hS⟩ : ∃ S, bts (33 :: t) = S := ⟨_, rfl⟩
 obtain ⟨n, hn⟩ : ∃ n, S.size = n := ⟨_, rfl⟩
 have hnl : n = t.length + 1 := by rw [← hn, ← hS, bts_size]; rfl
 have hsz : 0 < S.size := by rw [← hS, bts_size]; simp
 have hS0 : S[0]'hsz = 33 := lst_at (s := S) (by rw [← hS, lst_bts]; rfl) hsz
 have hSl : ¬ S.toList = [] := by rw [← hS, bts_toList]; simp
 have hSl2 : (S.toList == []) = false := by rw [← hS, bts_toList]; rfl
 have hext : S.extract 1 n = bts t := by
  rw [← hS, hnl]
  have := Nr.ext_drop (33 :: t) 1
  simpa using this
 have h1n : (1 : Int) ≤ (n : Int) := by omega
 obtain ⟨D, hD⟩ : ∃ D : Int, ((N + 1 : Nat) : Int) = D := ⟨_, rfl⟩
 have hD0 : ¬ D = 0 := by omega
 have hD1 : (D == 0) = false := by simpa using hD0
 have hDw : IntKind.i64.wrap (D - 1) = (N : Int) := by rw [← hD, show ((N + 1 : Nat) : Int) - 1 = (N : Int) by omega]; exact IntWalk.i64_in _ (by omega)
 obtain ⟨c, hc⟩ : ∃ c, c = w.heap.size := ⟨_, rfl⟩
 obtain ⟨W0, hW0⟩ : ∃ W, W = w.alloc (.cells #[.int .i64 0, .string ⟨#[]⟩, .string ⟨#[]⟩, .int .i64 0, .slice none 0 0] 26) := ⟨_, rfl⟩
 obtain ⟨z, hz⟩ : ∃ z, z = W0.heap.size := ⟨_, rfl⟩
 obtain ⟨W1, hW1⟩ : ∃ W, W = W0.alloc (.cells #[.int .i64 0, .string ⟨#[]⟩, .string ⟨#[]⟩, .int .i64 0, .slice none 0 0] 26) := ⟨_, rfl⟩
 have hb0 : Below w.heap.size w W0 := be0 hW0
 have HB : Hid (Below w.heap.size w W1) := hid (by rw [hW1]; exact hb0.alloc hb0.size _)
 have HBX : Hid (Box5 c W1) := hid (by rw [hW1]; exact (by rw [hW0]; exact Box5.top hc : Box5 c W0).but ((But.refl W0.heap.size W0).alloc _) (by rw [hW0, hc]; simp))
 have HBZ : Hid (Box5 z W1) := hid (by rw [hW1]; exact Box5.top hz)
 have HC : Hid (w.heap.size ≤ c) := hid (Nat.le_of_eq hc.symm)
 have HA := hid (hA W1)
 obtain ⟨O, hO⟩ : ∃ O, Ar.askR N t = O := ⟨_, rfl⟩
 rw [hO] at HA
 rw [hO]
 obtain ⟨P, hP⟩ : ∃ P : Option (Ask × Bs), P = notR O := ⟨_, rfl⟩
 have HP := hid hP
 rw [← hP]
 clear hP
 obtain ⟨T, hT⟩ : ∃ T, bts t = T := ⟨_, rfl⟩
 rw [hT] at HA hext
 obtain ⟨E, hE⟩ : ∃ E : Int, (N : Int) = E := ⟨_, rfl⟩
 rw [hE] at HA hDw
 rw [hS, hD]
 clear hb0 hS hs hnl hT hD hN hE hO hA
 go_enter Tryz.func76, Tryz.ntmps76
 go_upto_region 1 with fail
 rw [← hW0, ← hc]
 clear hW0 hc
 go_upto_region 2 with fail
 rw [← hW1, ← hz]
 clear hW1 hz
 have r0 := HBX.out.r0
 have r1 := HBX.out.r1
 have r2 := HBX.out.r2
 have r3 := HBX.out.r3
 have r4 := HBX.out.r4
 have q0 := HBX.out.fz 0
 have q1 := HBX.out.fz 1
 have q2 := HBX.out.fz 2
 have q3 := HBX.out.fz 3
 have q4 := HBX.out.fz 4
 have z0 := HBZ.out.r0
 have z1 := HBZ.out.r1
 have z2 := HBZ.out.r2
 have z3 := HBZ.out.r3
 have z4 := HBZ.out.r4
 have hcl := HBX.out.lt
 go_wp2_with fail
 refine Calls.mono HA.out ?_
 rintro e W2 hq
 obtain ⟨hb2, bv, x0, x1, x2, x3, xd, xl, xc, t', rfl, hq2⟩ := hq.form
 have HQ2 := hid hq2
 have HB2 := hid hb2
 have HBX2 : Hid (Box5 c W2) := hid (HBX.out.but (But.ofBelow (rb := W1.heap.size) hb2 lr) (Nat.ne_of_lt HBX.out.lt))
 clear hq hq2 hb2
 clear r0 r1 r2 r3 r4 q0 q1 q2 q3 q4 hcl z0 z1 z2 z3 z4
 go_upto_region 10 with fail
 obtain ⟨W3, hW3⟩ : ∃ W, W = W2.alloc (.cells #[.int .i64 x0, .string x1, .string x2, .int .i64 x3, .slice xd xl xc] 26) := ⟨_, rfl⟩
 obtain ⟨d, hd⟩ : ∃ d, d = W2.heap.size := ⟨_, rfl⟩
 have hbW3 : Below W2.heap.size W2 W3 := be0 hW3
 have HBXW3 : Hid (Box5 c W3) := hid (HBX2.out.but (But.ofBelow (rb := d) hbW3 lr) (Nat.ne_of_lt (by rw [hd]; exact HBX2.out.lt)))
 have bd0 : W3.cell? ⟨d, 0, none⟩ = some (.int .i64 x0) := by rw [hW3]; exact (cell_top _ _ _ _ _ hd).trans rfl
 have bd1 : W3.cell? ⟨d, 1, none⟩ = some (.string x1) := by rw [hW3]; exact (cell_top _ _ _ _ _ hd).trans rfl
 have bd2 : W3.cell? ⟨d, 2, none⟩ = some (.string x2) := by rw [hW3]; exact (cell_top _ _ _ _ _ hd).trans rfl
 have bd3 : W3.cell? ⟨d, 3, none⟩ = some (.int .i64 x3) := by rw [hW3]; exact (cell_top _ _ _ _ _ hd).trans rfl
 have bd4 : W3.cell? ⟨d, 4, none⟩ = some (.slice xd xl xc) := by rw [hW3]; exact (cell_top _ _ _ _ _ hd).trans rfl
 have hdld : d < W3.heap.size := by rw [hW3, hd]; simp
 rw [← hW3, ← hd]
 have HW3 := hid hW3
 have HDd := hid hd
 have HBW3 := hid hbW3
 clear hW3 hd hbW3
 have r0 := HBXW3.out.r0
 have r1 := HBXW3.out.r1
 have r2 := HBXW3.out.r2
 have r3 := HBXW3.out.r3
 have r4 := HBXW3.out.r4
 have q0 := HBXW3.out.fz 0
 have q1 := HBXW3.out.fz 1
 have q2 := HBXW3.out.fz 2
 have q3 := HBXW3.out.fz 3
 have q4 := HBXW3.out.fz 4
 have hcl := HBXW3.out.lt
 have hcl1 : c < W3.heap.size + 1 := Nat.lt_succ_of_lt hcl
 obtain ⟨W4, hW4⟩ : ∃ W, W3.alloc (.cells #[.int .i64 x0, .string x1, .string x2, .int .i64 x3, .slice xd xl xc] 26) = W := ⟨_, rfl⟩
 have HW4 := hid hW4
 have HBX4 : Hid (Box5 c W4) := hid (by rw [← hW4]; exact HBXW3.out.but ((But.refl W3.heap.size W3).alloc _) (Nat.ne_of_lt HBXW3.out.lt))
 clear r0 r1 r2 r3 r4 q0 q1 q2 q3 q4 hcl hcl1
 have r0 := HBX4.out.r0
 have r1 := HBX4.out.r1
 have r2 := HBX4.out.r2
 have r3 := HBX4.out.r3
 have r4 := HBX4.out.r4
 have q0 := HBX4.out.fz 0
 have q1 := HBX4.out.fz 1
 have q2 := HBX4.out.fz 2
 have q3 := HBX4.out.fz 3
 have q4 := HBX4.out.fz 4
 have hcl := HBX4.out.lt
 have hcl1 : c < W4.heap.size + 1 := Nat.lt_succ_of_lt hcl
 go_wp2_with fail
 refine bodyPost_ret (v := .tuple #[.agg #[.int .i64 4, .string ⟨#[]⟩, .string ⟨#[]⟩, .int .i64 0, .slice (some ⟨W3.heap.size, 0, none⟩) 1 1], .string t', .bool bv]) (by simp [results, Tryz.results76, go_sem, cell_set, r0, r1, r2, r3, r4, hcl, hcl1]) rfl ?_
 show AskAtQ w _ _ (five W4 c (.int .i64 4) (.string ⟨#[]⟩) (.string ⟨#[]⟩) (.int .i64 0) (.slice (some ⟨W3.heap.size, 0, none⟩) 1 1))
 rw [← HW4.out]
 have h13 : Below W1.heap.size W1 W3 := HB2.out.trans (HBW3.out.mono HB2.out.size)
 refine AskAtQ.mk' (five_below (((HB.out.trans (h13.mono HB.out.size))).alloc (Nat.le_trans HB.out.size h13.size) _) c _ _ _ _ _ HC.out) ?_
 rw [HP.out]
 have hq2 := HQ2.out
 cases O with
 | none => exact hq2
 | some p =>
  obtain ⟨y, r⟩ := p
  obtain ⟨e1, e2, hv⟩ := hq2
  exact ⟨e1, e2, tree_oneA h13.size HBX.out.lt HB.out.size (AskVP.stays (fun b h => h) HBW3.out.size (fun b _ hb => HBW3.out.block b hb) _ _ hv) _ _ _ _ _⟩
end Go.Proofs.YtkemlckmfgacdaaGreatDoor
