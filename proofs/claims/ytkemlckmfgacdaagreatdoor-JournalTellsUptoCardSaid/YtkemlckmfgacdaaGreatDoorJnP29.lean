/- Contract: the document's reader of an ask: a word, and what follows. -/
import Derived.Test.YtkemlckmfgacdaaGreatDoorJnP26
namespace Go.Proofs.YtkemlckmfgacdaaGreatDoor
set_option maxRecDepth 20000
set_option maxHeartbeats 64000000
open Tp
theorem askR_other {N : Nat} {s : Bs} (h0 : s ≠ []) (h63 : ∀ t, s ≠ 63 :: t) (h33 : ∀ t, s ≠ 33 :: t) (h40 : ∀ t, s ≠ 40 :: t) : Ar.askR (N + 1) s = elseR (Ar.word s) (Ar.rest s) := by
 unfold Ar.askR elseR
 split
 ·exact absurd rfl h0
 ·rename_i t; exact absurd rfl (h63 t)
 ·rename_i t; exact absurd rfl (h33 t)
 ·rename_i t; exact absurd rfl (h40 t)
 ·rfl
end Go.Proofs.YtkemlckmfgacdaaGreatDoor
set_option linter.unusedVariables false
set_option linter.unusedSimpArgs false
namespace Go.Proofs.YtkemlckmfgacdaaGreatDoor
set_option maxRecDepth 20000
set_option maxHeartbeats 64000000
open Go.ChangeShapes Go.WideShapes Go.ChangeAt Go.RowKit
open Tp
theorem askAt_more (N : Nat) (c0 : UInt8) (s1 : Bs) (w : World) (hN : N < 61) (hs : s1.length ≤ 1999) (hk63 : c0 ≠ 63) (hk33 : c0 ≠ 33) (hk40 : c0 ≠ 40) (t : Bs) (hr : Ar.rest (c0 :: s1) = 62 :: 61 :: t) : Calls Tryz.prog 76 #[.string (bts (c0 :: s1)), .int .i64 ((N + 1 : Nat) : Int)] w (AskAtQ w (elseR (Ar.word (c0 :: s1)) (62 :: 61 :: t))) := by
 obtain ⟨S, hS⟩ : ∃ S, bts (c0 :: s1) = S := ⟨_, rfl⟩
 obtain ⟨n, hn⟩ : ∃ n, S.size = n := ⟨_, rfl⟩
 have hnl : n = s1.length + 1 := by rw [← hn, ← hS, bts_size]; rfl
 have hsz : 0 < S.size := by rw [← hS, bts_size]; simp
 have hS0 : S[0]'hsz = c0 := lst_at (s := S) (by rw [← hS, lst_bts]; rfl) hsz
 have hSl : ¬ S.toList = [] := by rw [← hS, bts_toList]; simp
 have hSl2 : (S.toList == []) = false := by rw [← hS, bts_toList]; rfl
 have h1n : (1 : Int) ≤ (n : Int) := by omega
 obtain ⟨D, hD⟩ : ∃ D : Int, ((N + 1 : Nat) : Int) = D := ⟨_, rfl⟩
 have hD0 : ¬ D = 0 := by omega
 have hD1 : (D == 0) = false := by simpa using hD0
 have g63 : ((c0.toNat : Int) == 63) = false := by simp only [beq_eq_false_iff_ne]; exact fun h => hk63 (UInt8.toNat_inj.1 (by simpa using (by exact_mod_cast h : c0.toNat = 63)))
 have g33 : ((c0.toNat : Int) == 33) = false := by simp only [beq_eq_false_iff_ne]; exact fun h => hk33 (UInt8.toNat_inj.1 (by simpa using (by exact_mod_cast h : c0.toNat = 33)))
 have g40 : ((c0.toNat : Int) == 40) = false := by simp only [beq_eq_false_iff_ne]; exact fun h => hk40 (UInt8.toNat_inj.1 (by simpa using (by exact_mod_cast h : c0.toNat = 40)))
 clear hk63 hk33 hk40
 obtain ⟨c, hc⟩ : ∃ c, c = w.heap.size := ⟨_, rfl⟩
 obtain ⟨W0, hW0⟩ : ∃ W, W = w.alloc (.cells #[.int .i64 0, .string ⟨#[]⟩, .string ⟨#[]⟩, .int .i64 0, .slice none 0 0] 26) := ⟨_, rfl⟩
 obtain ⟨z, hz⟩ : ∃ z, z = W0.heap.size := ⟨_, rfl⟩
 obtain ⟨W1, hW1⟩ : ∃ W, W = W0.alloc (.cells #[.int .i64 0, .string ⟨#[]⟩, .string ⟨#[]⟩, .int .i64 0, .slice none 0 0] 26) := ⟨_, rfl⟩
 have hb0 : Below w.heap.size w W0 := be0 hW0
 have HB : Hid (Below w.heap.size w W1) := hid (by rw [hW1]; exact hb0.alloc hb0.size _)
 have HBX : Hid (Box5 c W1) := hid (by rw [hW1]; exact (by rw [hW0]; exact Box5.top hc : Box5 c W0).but ((But.refl W0.heap.size W0).alloc _) (by rw [hW0, hc]; simp))
 have HBZ : Hid (Box5 z W1) := hid (by rw [hW1]; exact Box5.top hz)
 have HC : Hid (w.heap.size ≤ c) := hid (Nat.le_of_eq hc.symm)
 have HFR := hid (fun W => front_any (c0 :: s1) W (by simp only [List.length_cons]; omega))
 have HLA : Hid ((Ar.word (c0 :: s1)).length ≤ 9223372036854775807) := hid (by have := Ar.word_len (c0 :: s1); simp only [List.length_cons] at this; omega)
 have hrl := Ar.rest_len (c0 :: s1)
 rw [hr] at hrl
 have HF2 := hid (fun W => front_any t W (by simp only [List.length_cons] at hrl; omega))
 have HI2 := hid (fun W => IntOf_any (Ar.word t) W (by have := Ar.word_len t; simp only [List.length_cons] at hrl; omega))
 obtain ⟨A, hA⟩ : ∃ A, bts (Ar.word (c0 :: s1)) = A := ⟨_, rfl⟩
 obtain ⟨R, hRb⟩ : ∃ R, bts (Ar.rest (c0 :: s1)) = R := ⟨_, rfl⟩
 have HA := hid hA
 rw [hS, hA, hRb] at HFR
 rw [hS, hD]
 obtain ⟨T, hT⟩ : ∃ T, bts t = T := ⟨_, rfl⟩
 obtain ⟨A2, hA2⟩ : ∃ T, bts (Ar.word t) = T := ⟨_, rfl⟩
 obtain ⟨R2, hR2⟩ : ∃ T, bts (Ar.rest t) = T := ⟨_, rfl⟩
 have HR2 := hid hR2
 rw [hT, hA2, hR2] at HF2
 rw [hA2] at HI2
 obtain ⟨m, hm⟩ : ∃ m, R.size = m := ⟨_, rfl⟩
 have hml : m = t.length + 2 := by rw [← hm, ← hRb, hr, bts_size]; rfl
 have hx2 : R.extract 2 m = T := by
  rw [← hT, ← hRb, hr, hml]
  have := Nr.ext_drop (62 :: 61 :: t) 2
  simpa using this
 have hx0 : ((R.extract 0 2).toList == [62, 61]) = true := by
  rw [← hRb, hr, Nr.ext_take, bts_toList]; rfl
 have hm1 : (1 : Int) < (m : Int) := by omega
 have hm2 : (2 : Int) ≤ (m : Int) := by omega
 clear hb0 hS hs hnl hT hA hD hN hA2 hR2 hRb hml hrl hr
 go_enter Tryz.func76, Tryz.ntmps76
 go_upto_region 1 with fail
 rw [← hW0, ← hc]
 clear hW0 hc
 go_upto_region 2 with fail
 rw [← hW1, ← hz]
 clear hW1 hz
 have r0 := HBX.out.r0
 have r1 := HBX.out.r1
 have r2 := HBX.out.r2
 have r3 := HBX.out.r3
 have r4 := HBX.out.r4
 have q0 := HBX.out.fz 0
 have q1 := HBX.out.fz 1
 have q2 := HBX.out.fz 2
 have q3 := HBX.out.fz 3
 have q4 := HBX.out.fz 4
 have z0 := HBZ.out.r0
 have z1 := HBZ.out.r1
 have z2 := HBZ.out.r2
 have z3 := HBZ.out.r3
 have z4 := HBZ.out.r4
 have hcl := HBX.out.lt
 go_wp2_with fail
 refine Calls.mono (HFR.out _) ?_
 rintro e W2 ⟨rfl, hb2⟩
 have HB2 : Hid (Below w.heap.size w W2) := hid (HB.out.trans (hb2.mono HB.out.size))
 have HBX2 : Hid (Box5 c W2) := hid (HBX.out.but (But.ofBelow (rb := W1.heap.size) hb2 lr) (Nat.ne_of_lt HBX.out.lt))
 have HBZ2 : Hid (Box5 z W2) := hid (HBZ.out.but (But.ofBelow (rb := W1.heap.size) hb2 lr) (Nat.ne_of_lt HBZ.out.lt))
 clear hb2
 clear r0 r1 r2 r3 r4 q0 q1 q2 q3 q4 hcl z0 z1 z2 z3 z4
 go_wp2_with fail
 refine Calls.mono (HF2.out _) ?_
 rintro e W3 ⟨rfl, hb3⟩
 have HB3 := hid hb3
 clear hb3
 go_wp2_with fail
 refine Calls.mono (HI2.out _) ?_
 rintro e W4 ⟨n4, rfl, hn4, hb4⟩
 have HN4 := hid hn4
 have HB24 := hid (HB3.out.trans (hb4.mono HB3.out.size))
 have HBX4 : Hid (Box5 c W4) := hid (HBX2.out.but (But.ofBelow (rb := W2.heap.size) HB24.out lr) (Nat.ne_of_lt HBX2.out.lt))
 clear hn4 hb4
 obtain ⟨bv, hbv⟩ : ∃ b, (Nt.intOf (Ar.word t)).isSome = b := ⟨_, rfl⟩
 have HBV := hid hbv
 rw [hbv]
 clear hbv
 have r0 := HBX4.out.r0
 have r1 := HBX4.out.r1
 have r2 := HBX4.out.r2
 have r3 := HBX4.out.r3
 have r4 := HBX4.out.r4
 have q0 := HBX4.out.fz 0
 have q1 := HBX4.out.fz 1
 have q2 := HBX4.out.fz 2
 have q3 := HBX4.out.fz 3
 have q4 := HBX4.out.fz 4
 have hcl := HBX4.out.lt
 have hcl1 : c < W4.heap.size + 1 := Nat.lt_succ_of_lt hcl
 go_wp2_with fail
 refine bodyPost_ret (v := .tuple #[.agg #[.int .i64 3, .string A, .string ⟨#[]⟩, .int .i64 n4, .slice none 0 0], .string R2, .bool bv]) (by simp [results, Tryz.results76, go_sem, cell_set, r0, r1, r2, r3, r4, hcl]) rfl ?_
 show AskAtQ w _ _ (five W4 c (.int .i64 3) (.string A) (.string ⟨#[]⟩) (.int .i64 n4) (.slice none 0 0))
 refine AskAtQ.mk' (five_below (HB2.out.trans (HB24.out.mono HB2.out.size)) c _ _ _ _ _ HC.out) ?_
 rw [elseR_more]
 have hbv := HBV.out
 have hn4 := HN4.out
 cases hi : Nt.intOf (Ar.word t) with
 | none => rw [hi] at hbv; exact hbv.symm
 | some v =>
  rw [hi] at hbv
  obtain rfl : n4 = v := hn4 v hi
  rw [← HA.out, ← HR2.out]
  exact ⟨hbv.symm, rfl, leaf_vp 3 (Ar.word (c0 :: s1)) [] n4 HLA.out (by simp)⟩
theorem askAt_is (N : Nat) (c0 : UInt8) (s1 : Bs) (w : World) (hN : N < 61) (hs : s1.length ≤ 1999) (hk63 : c0 ≠ 63) (hk33 : c0 ≠ 33) (hk40 : c0 ≠ 40) (t : Bs) (hr : Ar.rest (c0 :: s1) = 61 :: t) : Calls Tryz.prog 76 #[.string (bts (c0 :: s1)), .int .i64 ((N + 1 : Nat) : Int)] w (AskAtQ w (elseR (Ar.word (c0 :: s1)) (61 :: t))) := by
 obtain ⟨S, hS⟩ : ∃ S, bts (c0 :: s1) = S := ⟨_, rfl⟩
 obtain ⟨n, hn⟩ : ∃ n, S.size = n := ⟨_, rfl⟩
 have hnl : n = s1.length + 1 := by rw [← hn, ← hS, bts_size]; rfl
 have hsz : 0 < S.size := by rw [← hS, bts_size]; simp
 have hS0 : S[0]'hsz = c0 := lst_at (s := S) (by rw [← hS, lst_bts]; rfl) hsz
 have hSl : ¬ S.toList = [] := by rw [← hS, bts_toList]; simp
 have hSl2 : (S.toList == []) = false := by rw [← hS, bts_toList]; rfl
 have h1n : (1 : Int) ≤ (n : Int) := by omega
 obtain ⟨D, hD⟩ : ∃ D : Int, ((N + 1 : Nat) : Int) = D := ⟨_, rfl⟩
 have hD0 : ¬ D = 0 := by omega
 have hD1 : (D == 0) = false := by simpa using hD0
 have g63 : ((c0.toNat : Int) == 63) = false := by simp only [beq_eq_false_iff_ne]; exact fun h => hk63 (UInt8.toNat_inj.1 (by simpa using (by exact_mod_cast h : c0.toNat = 63)))
 have g33 : ((c0.toNat : Int) == 33) = false := by simp only [beq_eq_false_iff_ne]; exact fun h => hk33 (UInt8.toNat_inj.1 (by simpa using (by exact_mod_cast h : c0.toNat = 33)))
 have g40 : ((c0.toNat : Int) == 40) = false := by simp only [beq_eq_false_iff_ne]; exact fun h => hk40 (UInt8.toNat_inj.1 (by simpa using (by exact_mod_cast h : c0.toNat = 40)))
 clear hk63 hk33 hk40
 obtain ⟨c, hc⟩ : ∃ c, c = w.heap.size := ⟨_, rfl⟩
 obtain ⟨W0, hW0⟩ : ∃ W, W = w.alloc (.cells #[.int .i64 0, .string ⟨#[]⟩, .string ⟨#[]⟩, .int .i64 0, .slice none 0 0] 26) := ⟨_, rfl⟩
 obtain ⟨z, hz⟩ : ∃ z, z = W0.heap.size := ⟨_, rfl⟩
 obtain ⟨W1, hW1⟩ : ∃ W, W = W0.alloc (.cells #[.int .i64 0, .string ⟨#[]⟩, .string ⟨#[]⟩, .int .i64 0, .slice none 0 0] 26) := ⟨_, rfl⟩
 have hb0 : Below w.heap.size w W0 := be0 hW0
 have HB : Hid (Below w.heap.size w W1) := hid (by rw [hW1]; exact hb0.alloc hb0.size _)
 have HBX : Hid (Box5 c W1) := hid (by rw [hW1]; exact (by rw [hW0]; exact Box5.top hc : Box5 c W0).but ((But.refl W0.heap.size W0).alloc _) (by rw [hW0, hc]; simp))
 have HBZ : Hid (Box5 z W1) := hid (by rw [hW1]; exact Box5.top hz)
 have HC : Hid (w.heap.size ≤ c) := hid (Nat.le_of_eq hc.symm)
 have HFR := hid (fun W => front_any (c0 :: s1) W (by simp only [List.length_cons]; omega))
 have HLA : Hid ((Ar.word (c0 :: s1)).length ≤ 9223372036854775807) := hid (by have := Ar.word_len (c0 :: s1); simp only [List.length_cons] at this; omega)
 have hrl := Ar.rest_len (c0 :: s1)
 rw [hr] at hrl
 have HF2 := hid (fun W => front_any t W (by simp only [List.length_cons] at hrl; omega))
 have HLB : Hid ((Ar.word t).length ≤ 9223372036854775807) := hid (by have := Ar.word_len t; simp only [List.length_cons] at hrl; omega)
 obtain ⟨A, hA⟩ : ∃ A, bts (Ar.word (c0 :: s1)) = A := ⟨_, rfl⟩
 obtain ⟨R, hRb⟩ : ∃ R, bts (Ar.rest (c0 :: s1)) = R := ⟨_, rfl⟩
 have HA := hid hA
 rw [hS, hA, hRb] at HFR
 rw [hS, hD]
 obtain ⟨T, hT⟩ : ∃ T, bts t = T := ⟨_, rfl⟩
 obtain ⟨A2, hA2⟩ : ∃ T, bts (Ar.word t) = T := ⟨_, rfl⟩
 obtain ⟨R2, hR2⟩ : ∃ T, bts (Ar.rest t) = T := ⟨_, rfl⟩
 have HR2 := hid hR2
 have HA2 := hid hA2
 rw [hT, hA2, hR2] at HF2
 obtain ⟨m, hm⟩ : ∃ m, R.size = m := ⟨_, rfl⟩
 have hml : m = t.length + 1 := by rw [← hm, ← hRb, hr, bts_size]; rfl
 have hx1 : R.extract 1 m = T := by
  rw [← hT, ← hRb, hr, hml]
  have := Nr.ext_drop (61 :: t) 1
  simpa using this
 have hRz : 0 < R.size := by omega
 have hR0 : R[0]'hRz = 61 := lst_at (s := R) (by rw [← hRb, lst_bts, hr]; rfl) hRz
 have hRl : ¬ R.toList = [] := by rw [← hRb, hr, bts_toList]; simp
 have hRl2 : (R.toList == []) = false := by rw [← hRb, hr, bts_toList]; rfl
 have hm1 : (1 : Int) ≤ (m : Int) := by omega
 have hARM : (¬ (1 : Int) < (m : Int)) ∨ ((1 : Int) < (m : Int) ∧ (2 : Int) ≤ (m : Int) ∧ ((R.extract 0 2).toList == [62, 61]) = false) := by
  by_cases h : (1 : Int) < (m : Int)
  ·exact .inr ⟨h, by omega, by rw [← hRb, hr, Nr.ext_take, bts_toList]; simp⟩
  ·exact .inl h
 clear hb0 hS hs hnl hT hA hD hN hA2 hR2 hRb hml hrl hr
 have HARM := hid hARM
 clear hARM
 rcases HARM.out with hm3 | ⟨hm3, hm2, hx0⟩
 ·go_enter Tryz.func76, Tryz.ntmps76
  go_upto_region 1 with fail
  rw [← hW0, ← hc]
  clear hW0 hc
  go_upto_region 2 with fail
  rw [← hW1, ← hz]
  clear hW1 hz
  have r0 := HBX.out.r0
  have r1 := HBX.out.r1
  have r2 := HBX.out.r2
  have r3 := HBX.out.r3
  have r4 := HBX.out.r4
  have q0 := HBX.out.fz 0
  have q1 := HBX.out.fz 1
  have q2 := HBX.out.fz 2
  have q3 := HBX.out.fz 3
  have q4 := HBX.out.fz 4
  have z0 := HBZ.out.r0
  have z1 := HBZ.out.r1
  have z2 := HBZ.out.r2
  have z3 := HBZ.out.r3
  have z4 := HBZ.out.r4
  have hcl := HBX.out.lt
  go_wp2_with fail
  refine Calls.mono (HFR.out _) ?_
  rintro e W2 ⟨rfl, hb2⟩
  have HB2 : Hid (Below w.heap.size w W2) := hid (HB.out.trans (hb2.mono HB.out.size))
  have HBX2 : Hid (Box5 c W2) := hid (HBX.out.but (But.ofBelow (rb := W1.heap.size) hb2 lr) (Nat.ne_of_lt HBX.out.lt))
  have HBZ2 : Hid (Box5 z W2) := hid (HBZ.out.but (But.ofBelow (rb := W1.heap.size) hb2 lr) (Nat.ne_of_lt HBZ.out.lt))
  clear hb2
  clear r0 r1 r2 r3 r4 q0 q1 q2 q3 q4 hcl z0 z1 z2 z3 z4
  go_wp2_with fail
  refine Calls.mono (HF2.out _) ?_
  rintro e W3 ⟨rfl, hb3⟩
  have HB3 := hid hb3
  have HBX3 : Hid (Box5 c W3) := hid (HBX2.out.but (But.ofBelow (rb := W2.heap.size) hb3 lr) (Nat.ne_of_lt HBX2.out.lt))
  clear hb3
  have r0 := HBX3.out.r0
  have r1 := HBX3.out.r1
  have r2 := HBX3.out.r2
  have r3 := HBX3.out.r3
  have r4 := HBX3.out.r4
  have q0 := HBX3.out.fz 0
  have q1 := HBX3.out.fz 1
  have q2 := HBX3.out.fz 2
  have q3 := HBX3.out.fz 3
  have q4 := HBX3.out.fz 4
  have hcl := HBX3.out.lt
  have hcl1 : c < W3.heap.size + 1 := Nat.lt_succ_of_lt hcl
  go_wp2_with fail
  refine bodyPost_ret (v := .tuple #[.agg #[.int .i64 2, .string A, .string A2, .int .i64 0, .slice none 0 0], .string R2, .bool true]) (by simp [results, Tryz.results76, go_sem, cell_set, r0, r1, r2, r3, r4, hcl]) rfl ?_
  show AskAtQ w _ _ (five W3 c (.int .i64 2) (.string A) (.string A2) (.int .i64 0) (.slice none 0 0))
  refine AskAtQ.mk' (five_below (HB2.out.trans (HB3.out.mono HB2.out.size)) c _ _ _ _ _ HC.out) ?_
  rw [elseR_is, ← HA.out, ← HR2.out, ← HA2.out]
  exact ⟨rfl, rfl, leaf_vp 2 (Ar.word (c0 :: s1)) (Ar.word t) 0 HLA.out HLB.out⟩
 ·go_enter Tryz.func76, Tryz.ntmps76
  go_upto_region 1 with fail
  rw [← hW0, ← hc]
  clear hW0 hc
  go_upto_region 2 with fail
  rw [← hW1, ← hz]
  clear hW1 hz
  have r0 := HBX.out.r0
  have r1 := HBX.out.r1
  have r2 := HBX.out.r2
  have r3 := HBX.out.r3
  have r4 := HBX.out.r4
  have q0 := HBX.out.fz 0
  have q1 := HBX.out.fz 1
  have q2 := HBX.out.fz 2
  have q3 := HBX.out.fz 3
  have q4 := HBX.out.fz 4
  have z0 := HBZ.out.r0
  have z1 := HBZ.out.r1
  have z2 := HBZ.out.r2
  have z3 := HBZ.out.r3
  have z4 := HBZ.out.r4
  have hcl := HBX.out.lt
  go_wp2_with fail
  refine Calls.mono (HFR.out _) ?_
  rintro e W2 ⟨rfl, hb2⟩
  have HB2 : Hid (Below w.heap.size w W2) := hid (HB.out.trans (hb2.mono HB.out.size))
  have HBX2 : Hid (Box5 c W2) := hid (HBX.out.but (But.ofBelow (rb := W1.heap.size) hb2 lr) (Nat.ne_of_lt HBX.out.lt))
  have HBZ2 : Hid (Box5 z W2) := hid (HBZ.out.but (But.ofBelow (rb := W1.heap.size) hb2 lr) (Nat.ne_of_lt HBZ.out.lt))
  clear hb2
  clear r0 r1 r2 r3 r4 q0 q1 q2 q3 q4 hcl z0 z1 z2 z3 z4
  go_wp2_with fail
  refine Calls.mono (HF2.out _) ?_
  rintro e W3 ⟨rfl, hb3⟩
  have HB3 := hid hb3
  have HBX3 : Hid (Box5 c W3) := hid (HBX2.out.but (But.ofBelow (rb := W2.heap.size) hb3 lr) (Nat.ne_of_lt HBX2.out.lt))
  clear hb3
  have r0 := HBX3.out.r0
  have r1 := HBX3.out.r1
  have r2 := HBX3.out.r2
  have r3 := HBX3.out.r3
  have r4 := HBX3.out.r4
  have q0 := HBX3.out.fz 0
  have q1 := HBX3.out.fz 1
  have q2 := HBX3.out.fz 2
  have q3 := HBX3.out.fz 3
  have q4 := HBX3.out.fz 4
  have hcl := HBX3.out.lt
  have hcl1 : c < W3.heap.size + 1 := Nat.lt_succ_of_lt hcl
  go_wp2_with fail
  refine bodyPost_ret (v := .tuple #[.agg #[.int .i64 2, .string A, .string A2, .int .i64 0, .slice none 0 0], .string R2, .bool true]) (by simp [results, Tryz.results76, go_sem, cell_set, r0, r1, r2, r3, r4, hcl]) rfl ?_
  show AskAtQ w _ _ (five W3 c (.int .i64 2) (.string A) (.string A2) (.int .i64 0) (.slice none 0 0))
  refine AskAtQ.mk' (five_below (HB2.out.trans (HB3.out.mono HB2.out.size)) c _ _ _ _ _ HC.out) ?_
  rw [elseR_is, ← HA.out, ← HR2.out, ← HA2.out]
  exact ⟨rfl, rfl, leaf_vp 2 (Ar.word (c0 :: s1)) (Ar.word t) 0 HLA.out HLB.out⟩
theorem askAt_no (N : Nat) (c0 : UInt8) (s1 : Bs) (w : World) (hN : N < 61) (hs : s1.length ≤ 1999) (hk63 : c0 ≠ 63) (hk33 : c0 ≠ 33) (hk40 : c0 ≠ 40) (hr1 : ∀ t, Ar.rest (c0 :: s1) ≠ 62 :: 61 :: t) (hr2 : ∀ t, Ar.rest (c0 :: s1) ≠ 61 :: t) : Calls Tryz.prog 76 #[.string (bts (c0 :: s1)), .int .i64 ((N + 1 : Nat) : Int)] w (AskAtQ w (none)) := by
 obtain ⟨S, hS⟩ : ∃ S, bts (c0 :: s1) = S := ⟨_, rfl⟩
 obtain ⟨n, hn⟩ : ∃ n, S.size = n := ⟨_, rfl⟩
 have hnl : n = s1.length + 1 := by rw [← hn, ← hS, bts_size]; rfl
 have hsz : 0 < S.size := by rw [← hS, bts_size]; simp
 have hS0 : S[0]'hsz = c0 := lst_at (s := S) (by rw [← hS, lst_bts]; rfl) hsz
 have hSl : ¬ S.toList = [] := by rw [← hS, bts_toList]; simp
 have hSl2 : (S.toList == []) = false := by rw [← hS, bts_toList]; rfl
 have h1n : (1 : Int) ≤ (n : Int) := by omega
 obtain ⟨D, hD⟩ : ∃ D : Int, ((N + 1 : Nat) : Int) = D := ⟨_, rfl⟩
 have hD0 : ¬ D = 0 := by omega
 have hD1 : (D == 0) = false := by simpa using hD0
 have g63 : ((c0.toNat : Int) == 63) = false := by simp only [beq_eq_false_iff_ne]; exact fun h => hk63 (UInt8.toNat_inj.1 (by simpa using (by exact_mod_cast h : c0.toNat = 63)))
 have g33 : ((c0.toNat : Int) == 33) = false := by simp only [beq_eq_false_iff_ne]; exact fun h => hk33 (UInt8.toNat_inj.1 (by simpa using (by exact_mod_cast h : c0.toNat = 33)))
 have g40 : ((c0.toNat : Int) == 40) = false := by simp only [beq_eq_false_iff_ne]; exact fun h => hk40 (UInt8.toNat_inj.1 (by simpa using (by exact_mod_cast h : c0.toNat = 40)))
 clear hk63 hk33 hk40
 obtain ⟨c, hc⟩ : ∃ c, c = w.heap.size := ⟨_, rfl⟩
 obtain ⟨W0, hW0⟩ : ∃ W, W = w.alloc (.cells #[.int .i64 0, .string ⟨#[]⟩, .string ⟨#[]⟩, .int .i64 0, .slice none 0 0] 26) := ⟨_, rfl⟩
 obtain ⟨z, hz⟩ : ∃ z, z = W0.heap.size := ⟨_, rfl⟩
 obtain ⟨W1, hW1⟩ : ∃ W, W = W0.alloc (.cells #[.int .i64 0, .string ⟨#[]⟩, .string ⟨#[]⟩, .int .i64 0, .slice none 0 0] 26) := ⟨_, rfl⟩
 have hb0 : Below w.heap.size w W0 := be0 hW0
 have HB : Hid (Below w.heap.size w W1) := hid (by rw [hW1]; exact hb0.alloc hb0.size _)
 have HBX : Hid (Box5 c W1) := hid (by rw [hW1]; exact (by rw [hW0]; exact Box5.top hc : Box5 c W0).but ((But.refl W0.heap.size W0).alloc _) (by rw [hW0, hc]; simp))
 have HBZ : Hid (Box5 z W1) := hid (by rw [hW1]; exact Box5.top hz)
 have HC : Hid (w.heap.size ≤ c) := hid (Nat.le_of_eq hc.symm)
 have HFR := hid (fun W => front_any (c0 :: s1) W (by simp only [List.length_cons]; omega))
 have HLA : Hid ((Ar.word (c0 :: s1)).length ≤ 9223372036854775807) := hid (by have := Ar.word_len (c0 :: s1); simp only [List.length_cons] at this; omega)
 have hrl := Ar.rest_len (c0 :: s1)
 obtain ⟨A, hA⟩ : ∃ A, bts (Ar.word (c0 :: s1)) = A := ⟨_, rfl⟩
 obtain ⟨R, hRb⟩ : ∃ R, bts (Ar.rest (c0 :: s1)) = R := ⟨_, rfl⟩
 have HA := hid hA
 rw [hS, hA, hRb] at HFR
 rw [hS, hD]
 obtain ⟨m, hm⟩ : ∃ m, R.size = m := ⟨_, rfl⟩
 obtain ⟨c1, hc1⟩ : ∃ c1 : UInt8, (R.toList = [] ∧ m = 0) ∨ (R.toList ≠ [] ∧ ∃ h : 0 < R.size, R[0]'h = c1) ∧ c1 ≠ 61 ∧ (1 < m → ((R.extract 0 2).toList == [62, 61]) = false) := by
  cases hrr : Ar.rest (c0 :: s1) with
  | nil => exact ⟨0, .inl ⟨by rw [← hRb, hrr, bts_toList], by rw [← hm, ← hRb, hrr]; rfl⟩⟩
  | cons x r =>
   refine ⟨x, .inr ⟨⟨by rw [← hRb, hrr, bts_toList]; simp, by rw [← hRb, hrr, bts_size]; simp, lst_at (s := R) (by rw [← hRb, lst_bts, hrr]; rfl) _⟩, fun h => hr2 r (by rw [hrr, h]), fun h => ?_⟩⟩
   rw [← hRb, hrr, Nr.ext_take, bts_toList]
   cases r with
   | nil => simp
   | cons y r =>
    simp only [List.take_succ_cons, List.take_zero, beq_eq_false_iff_ne]
    intro he
    injection he with e1 e2
    injection e2 with e2 e3
    exact hr1 r (by rw [hrr, e1, e2])
 have hARM : (R.toList = [] ∧ (R.toList == []) = true ∧ ¬ (1 : Int) < (m : Int)) ∨ (((R.toList == []) = false ∧ (∃ h : 0 < R.size, R[0]'h = c1) ∧ ((c1.toNat : Int) == 61) = false) ∧ (¬ (1 : Int) < (m : Int) ∨ ((1 : Int) < (m : Int) ∧ (2 : Int) ≤ (m : Int) ∧ ((R.extract 0 2).toList == [62, 61]) = false))) := by
  rcases hc1 with ⟨h1, h2⟩ | ⟨⟨h1, h2⟩, h3, h4⟩
  ·exact .inl ⟨h1, by rw [h1]; rfl, by omega⟩
  ·refine .inr ⟨⟨by simpa using h1, h2, ?_⟩, ?_⟩
   ·simp only [beq_eq_false_iff_ne]; exact fun h => h3 (UInt8.toNat_inj.1 (by simpa using (by exact_mod_cast h : c1.toNat = 61)))
   ·by_cases h : (1 : Int) < (m : Int)
    ·exact .inr ⟨h, by omega, h4 (by omega)⟩
    ·exact .inl h
 clear hb0 hS hs hnl hA hD hN hRb hrl hr1 hr2 hc1
 have HARM := hid hARM
 clear hARM
 rcases HARM.out with ⟨hRl, hRl2, hm3⟩ | ⟨⟨hRl2, ⟨hRz, hR0⟩, g61⟩, (hm3 | ⟨hm3, hm2, hx0⟩)⟩
 ·go_enter Tryz.func76, Tryz.ntmps76
  go_upto_region 1 with fail
  rw [← hW0, ← hc]
  clear hW0 hc
  go_upto_region 2 with fail
  rw [← hW1, ← hz]
  clear hW1 hz
  have r0 := HBX.out.r0
  have r1 := HBX.out.r1
  have r2 := HBX.out.r2
  have r3 := HBX.out.r3
  have r4 := HBX.out.r4
  have q0 := HBX.out.fz 0
  have q1 := HBX.out.fz 1
  have q2 := HBX.out.fz 2
  have q3 := HBX.out.fz 3
  have q4 := HBX.out.fz 4
  have z0 := HBZ.out.r0
  have z1 := HBZ.out.r1
  have z2 := HBZ.out.r2
  have z3 := HBZ.out.r3
  have z4 := HBZ.out.r4
  have hcl := HBX.out.lt
  go_wp2_with fail
  refine Calls.mono (HFR.out _) ?_
  rintro e W2 ⟨rfl, hb2⟩
  have HB2 : Hid (Below w.heap.size w W2) := hid (HB.out.trans (hb2.mono HB.out.size))
  have HBX2 : Hid (Box5 c W2) := hid (HBX.out.but (But.ofBelow (rb := W1.heap.size) hb2 lr) (Nat.ne_of_lt HBX.out.lt))
  have HBZ2 : Hid (Box5 z W2) := hid (HBZ.out.but (But.ofBelow (rb := W1.heap.size) hb2 lr) (Nat.ne_of_lt HBZ.out.lt))
  clear hb2
  clear r0 r1 r2 r3 r4 q0 q1 q2 q3 q4 hcl z0 z1 z2 z3 z4
  have z0 := HBZ2.out.r0
  have z1 := HBZ2.out.r1
  have z2 := HBZ2.out.r2
  have z3 := HBZ2.out.r3
  have z4 := HBZ2.out.r4
  have zcl := HBZ2.out.lt
  have r0 := HBX2.out.r0
  have r1 := HBX2.out.r1
  have r2 := HBX2.out.r2
  have r3 := HBX2.out.r3
  have r4 := HBX2.out.r4
  have q0 := HBX2.out.fz 0
  have q1 := HBX2.out.fz 1
  have q2 := HBX2.out.fz 2
  have q3 := HBX2.out.fz 3
  have q4 := HBX2.out.fz 4
  have hcl := HBX2.out.lt
  have hcl1 : c < W2.heap.size + 1 := Nat.lt_succ_of_lt hcl
  go_wp2_with fail
  refine bodyPost_ret (v := .tuple #[.agg #[.int .i64 0, .string ⟨#[]⟩, .string ⟨#[]⟩, .int .i64 0, .slice none 0 0], .string ⟨#[]⟩, .bool false]) (by simp [results, Tryz.results76, go_sem, cell_set, r0, r1, r2, r3, r4, hcl]) rfl ?_
  show AskAtQ w _ _ (five W2 c (.int .i64 0) (.string ⟨#[]⟩) (.string ⟨#[]⟩) (.int .i64 0) (.slice none 0 0))
  exact AskAtQ.mk' (five_below HB2.out c _ _ _ _ _ HC.out) rfl
 ·go_enter Tryz.func76, Tryz.ntmps76
  go_upto_region 1 with fail
  rw [← hW0, ← hc]
  clear hW0 hc
  go_upto_region 2 with fail
  rw [← hW1, ← hz]
  clear hW1 hz
  have r0 := HBX.out.r0
  have r1 := HBX.out.r1
  have r2 := HBX.out.r2
  have r3 := HBX.out.r3
  have r4 := HBX.out.r4
  have q0 := HBX.out.fz 0
  have q1 := HBX.out.fz 1
  have q2 := HBX.out.fz 2
  have q3 := HBX.out.fz 3
  have q4 := HBX.out.fz 4
  have z0 := HBZ.out.r0
  have z1 := HBZ.out.r1
  have z2 := HBZ.out.r2
  have z3 := HBZ.out.r3
  have z4 := HBZ.out.r4
  have hcl := HBX.out.lt
  go_wp2_with fail
  refine Calls.mono (HFR.out _) ?_
  rintro e W2 ⟨rfl, hb2⟩
  have HB2 : Hid (Below w.heap.size w W2) := hid (HB.out.trans (hb2.mono HB.out.size))
  have HBX2 : Hid (Box5 c W2) := hid (HBX.out.but (But.ofBelow (rb := W1.heap.size) hb2 lr) (Nat.ne_of_lt HBX.out.lt))
  have HBZ2 : Hid (Box5 z W2) := hid (HBZ.out.but (But.ofBelow (rb := W1.heap.size) hb2 lr) (Nat.ne_of_lt HBZ.out.lt))
  clear hb2
  clear r0 r1 r2 r3 r4 q0 q1 q2 q3 q4 hcl z0 z1 z2 z3 z4
  have z0 := HBZ2.out.r0
  have z1 := HBZ2.out.r1
  have z2 := HBZ2.out.r2
  have z3 := HBZ2.out.r3
  have z4 := HBZ2.out.r4
  have zcl := HBZ2.out.lt
  have r0 := HBX2.out.r0
  have r1 := HBX2.out.r1
  have r2 := HBX2.out.r2
  have r3 := HBX2.out.r3
  have r4 := HBX2.out.r4
  have q0 := HBX2.out.fz 0
  have q1 := HBX2.out.fz 1
  have q2 := HBX2.out.fz 2
  have q3 := HBX2.out.fz 3
  have q4 := HBX2.out.fz 4
  have hcl := HBX2.out.lt
  have hcl1 : c < W2.heap.size + 1 := Nat.lt_succ_of_lt hcl
  go_wp2_with fail
  refine bodyPost_ret (v := .tuple #[.agg #[.int .i64 0, .string ⟨#[]⟩, .string ⟨#[]⟩, .int .i64 0, .slice none 0 0], .string ⟨#[]⟩, .bool false]) (by simp [results, Tryz.results76, go_sem, cell_set, r0, r1, r2, r3, r4, hcl]) rfl ?_
  show AskAtQ w _ _ (five W2 c (.int .i64 0) (.string ⟨#[]⟩) (.string ⟨#[]⟩) (.int .i64 0) (.slice none 0 0))
  exact AskAtQ.mk' (five_below HB2.out c _ _ _ _ _ HC.out) rfl
 ·go_enter Tryz.func76, Tryz.ntmps76
  go_upto_region 1 with fail
  rw [← hW0, ← hc]
  clear hW0 hc
  go_upto_region 2 with fail
  rw [← hW1, ← hz]
  clear hW1 hz
  have r0 := HBX.out.r0
  have r1 := HBX.out.r1
  have r2 := HBX.out.r2
  have r3 := HBX.out.r3
  have r4 := HBX.out.r4
  have q0 := HBX.out.fz 0
  have q1 := HBX.out.fz 1
  have q2 := HBX.out.fz 2
  have q3 := HBX.out.fz 3
  have q4 := HBX.out.fz 4
  have z0 := HBZ.out.r0
  have z1 := HBZ.out.r1
  have z2 := HBZ.out.r2
  have z3 := HBZ.out.r3
  have z4 := HBZ.out.r4
  have hcl := HBX.out.lt
  go_wp2_with fail
  refine Calls.mono (HFR.out _) ?_
  rintro e W2 ⟨rfl, hb2⟩
  have HB2 : Hid (Below w.heap.size w W2) := hid (HB.out.trans (hb2.mono HB.out.size))
  have HBX2 : Hid (Box5 c W2) := hid (HBX.out.but (But.ofBelow (rb := W1.heap.size) hb2 lr) (Nat.ne_of_lt HBX.out.lt))
  have HBZ2 : Hid (Box5 z W2) := hid (HBZ.out.but (But.ofBelow (rb := W1.heap.size) hb2 lr) (Nat.ne_of_lt HBZ.out.lt))
  clear hb2
  clear r0 r1 r2 r3 r4 q0 q1 q2 q3 q4 hcl z0 z1 z2 z3 z4
  have z0 := HBZ2.out.r0
  have z1 := HBZ2.out.r1
  have z2 := HBZ2.out.r2
  have z3 := HBZ2.out.r3
  have z4 := HBZ2.out.r4
  have zcl := HBZ2.out.lt
  have r0 := HBX2.out.r0
  have r1 := HBX2.out.r1
  have r2 := HBX2.out.r2
  have r3 := HBX2.out.r3
  have r4 := HBX2.out.r4
  have q0 := HBX2.out.fz 0
  have q1 := HBX2.out.fz 1
  have q2 := HBX2.out.fz 2
  have q3 := HBX2.out.fz 3
  have q4 := HBX2.out.fz 4
  have hcl := HBX2.out.lt
  have hcl1 : c < W2.heap.size + 1 := Nat.lt_succ_of_lt hcl
  go_wp2_with fail
  refine bodyPost_ret (v := .tuple #[.agg #[.int .i64 0, .string ⟨#[]⟩, .string ⟨#[]⟩, .int .i64 0, .slice none 0 0], .string ⟨#[]⟩, .bool false]) (by simp [results, Tryz.results76, go_sem, cell_set, r0, r1, r2, r3, r4, hcl]) rfl ?_
  show AskAtQ w _ _ (five W2 c (.int .i64 0) (.string ⟨#[]⟩) (.string ⟨#[]⟩) (.int .i64 0) (.slice none 0 0))
  exact AskAtQ.mk' (five_below HB2.out c _ _ _ _ _ HC.out) rfl
end Go.Proofs.YtkemlckmfgacdaaGreatDoor
