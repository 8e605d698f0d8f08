/- Contract: the document's JobText. -/
import Derived.Test.YtkemlckmfgacdaaGreatDoorJnP20
import Derived.Test.YtkemlckmfgacdaaGreatDoorJnP14
import Derived.Test.YtkemlckmfgacdaaGreatDoorJnP22
namespace Go.Proofs.YtkemlckmfgacdaaGreatDoor
set_option maxRecDepth 20000
set_option maxHeartbeats 64000000
open Go.ChangeShapes Go.WideShapes Go.ChangeAt Go.RowKit
set_option linter.unusedVariables false
set_option linter.unusedSimpArgs false
open Tp Jm
theorem jobTextR_any (j : Jb) (v : Value) (w : World) (hf : j.fault = 0) (hv : JobV w j v) : Calls Tryz.prog 10 #[v] w fun e w' => e = .returned (.string (bts j.text)) ∧ Below w.heap.size w w' := by
 obtain ⟨x0, x1, x2, x3, xd, xl, xc, aa, ac, rfl, hp⟩ := hv
 unfold jobVal
 obtain ⟨u, P, a, b, c, x, l⟩ := j
 simp only at hp ⊢
 obtain ⟨U, hU⟩ : ∃ U, bts u = U := ⟨_, rfl⟩
 obtain ⟨n, hn⟩ : ∃ n, l.length = n := ⟨_, rfl⟩
 rw [hU, hn]
 obtain ⟨B, hB⟩ : ∃ B, B = w.heap.size := ⟨_, rfl⟩
 obtain ⟨W0, hW0⟩ : ∃ W, W = w.alloc (.cells #[.string U, .int .i64 P, .int .i64 a, .int .i64 b, .int .i64 c, .int .i64 x0, .string x1, .string x2, .int .i64 x3, .slice xd xl xc, .slice aa n ac] 29) := ⟨_, rfl⟩
 have hb0 : Below w.heap.size w W0 := be0 hW0
 have b0 : W0.cell? ⟨B, 0, none⟩ = some (.string U) := by rw [hW0]; exact (cell_top _ _ _ _ _ hB).trans rfl
 have b1 : W0.cell? ⟨B, 1, none⟩ = some (.int .i64 P) := by rw [hW0]; exact (cell_top _ _ _ _ _ hB).trans rfl
 have b2 : W0.cell? ⟨B, 2, none⟩ = some (.int .i64 a) := by rw [hW0]; exact (cell_top _ _ _ _ _ hB).trans rfl
 have b3 : W0.cell? ⟨B, 3, none⟩ = some (.int .i64 b) := by rw [hW0]; exact (cell_top _ _ _ _ _ hB).trans rfl
 have b4 : W0.cell? ⟨B, 4, none⟩ = some (.int .i64 c) := by rw [hW0]; exact (cell_top _ _ _ _ _ hB).trans rfl
 have b5 : W0.cell? ⟨B, 5, none⟩ = some (.int .i64 x0) := by rw [hW0]; exact (cell_top _ _ _ _ _ hB).trans rfl
 have b6 : W0.cell? ⟨B, 6, none⟩ = some (.string x1) := by rw [hW0]; exact (cell_top _ _ _ _ _ hB).trans rfl
 have b7 : W0.cell? ⟨B, 7, none⟩ = some (.string x2) := by rw [hW0]; exact (cell_top _ _ _ _ _ hB).trans rfl
 have b8 : W0.cell? ⟨B, 8, none⟩ = some (.int .i64 x3) := by rw [hW0]; exact (cell_top _ _ _ _ _ hB).trans rfl
 have b9 : W0.cell? ⟨B, 9, none⟩ = some (.slice xd xl xc) := by rw [hW0]; exact (cell_top _ _ _ _ _ hB).trans rfl
 have b10 : W0.cell? ⟨B, 10, none⟩ = some (.slice aa n ac) := by rw [hW0]; exact (cell_top _ _ _ _ _ hB).trans rfl
 have hBl : B < W0.heap.size := by rw [hW0, hB]; simp
 have HB0 := hid hb0
 obtain ⟨g1, g2, g3, g4, g5, g6⟩ := fault_parts hf
 simp only at g1 g2 g3 g4 g5 g6
 obtain ⟨s1, s2, s3, s4, s5⟩ := text_sizes hf
 simp only at s1 s2 s3 s4 s5
 have hgb := aftE_at l 0 g6
 obtain ⟨n1, n2, n3⟩ := needB_yes g3
 have HVV : Hid (∀ W, Below w.heap.size w W → Vals W aa (ints l)) := hid (fun W h => hp.aft.below h lr)
 obtain ⟨N, hN⟩ : ∃ N, bts (Nt.needText (a.toNat, b.toNat, c.toNat)) = N := ⟨_, rfl⟩
 obtain ⟨X, hX⟩ : ∃ N, bts (Ar.txt x) = N := ⟨_, rfl⟩
 obtain ⟨Dp, hDp⟩ : ∃ N, bts (Nt.decI P) = N := ⟨_, rfl⟩
 obtain ⟨Af, hAf⟩ : ∃ N, bts (aftT l) = N := ⟨_, rfl⟩
 have HND : Hid (∀ W, Calls Tryz.prog 42 #[.agg #[.int .i64 a, .int .i64 b, .int .i64 c]] W fun e w' => e = .returned (.string N) ∧ Below W.heap.size W w') := hid (fun W => by
  have h := NeedText_any a.toNat b.toNat c.toNat (can_of g3) W
  rw [show ((a.toNat : Nat) : Int) = a by omega, show ((b.toNat : Nat) : Int) = b by omega, show ((c.toNat : Nat) : Int) = c by omega, hN] at h
  exact h)
 have HDC : Hid (∀ m W, -1000 ≤ m → m ≤ 1000 → Calls Tryz.prog 41 #[.int .i64 m] W fun e w' => e = .returned (.string (bts (Nt.decI m))) ∧ Below W.heap.size W w') := hid (fun m W h0 h1 => DecimalW_any m W (by omega) (by omega))
 have HDP : Hid (∀ W, Calls Tryz.prog 41 #[.int .i64 P] W fun e w' => e = .returned (.string Dp) ∧ Below W.heap.size W w') := hid (fun W => by rw [← hDp]; exact HDC.out P W g2.1 g2.2)
 have HAX : Hid (∀ W, Below w.heap.size w W → Calls Tryz.prog 43 #[.agg #[.int .i64 x0, .string x1, .string x2, .int .i64 x3, .slice xd xl xc]] W fun e w' => e = .returned (.string X) ∧ Below W.heap.size W w') := hid (fun W h => by
  have hg := Ar.fault_good g4
  rw [← hX]
  exact refText_all x.size x _ W lr hg.2 (by have h := g4; unfold Ask.fault at h; rw [if_neg (by have := hg.2; omega)] at h; exact h) (AskV.below h _ _ hp.ask))
 obtain ⟨T, hT⟩ : ∃ T, bts (Jb.mk u P a b c x l).text = T := ⟨_, rfl⟩
 have zU : U.size ≤ 20 := by rw [← hU, bts_size]; exact s1
 have zDp : Dp.size ≤ 5 := by rw [← hDp, bts_size]; exact s2
 have zN : N.size ≤ 72 := by rw [← hN, bts_size]; exact s3
 have zAf : Af.size ≤ 24 := by rw [← hAf, bts_size]; exact s4
 have zX : X.size ≤ 2700 := by rw [← hX, bts_size]; exact s5
 have e32 : (⟨#[32]⟩ : ByteArray).size = 1 := rfl
 obtain ⟨p1, hp1⟩ : ∃ p, U ++ (⟨#[32]⟩ : ByteArray) = p := ⟨_, rfl⟩
 have hn1 : ¬ 9223372036854775807 < U.size + 1 := by omega
 have z1 : p1.size ≤ 21 := by rw [← hp1, ByteArray.size_append]; omega
 obtain ⟨p2, hp2⟩ : ∃ p, p1 ++ Dp = p := ⟨_, rfl⟩
 have hn2 : ¬ 9223372036854775807 < p1.size + Dp.size := by omega
 have z2 : p2.size ≤ 26 := by rw [← hp2, ByteArray.size_append]; omega
 obtain ⟨p3, hp3⟩ : ∃ p, p2 ++ (⟨#[32]⟩ : ByteArray) = p := ⟨_, rfl⟩
 have hn3 : ¬ 9223372036854775807 < p2.size + 1 := by omega
 have z3 : p3.size ≤ 27 := by rw [← hp3, ByteArray.size_append]; omega
 obtain ⟨p4, hp4⟩ : ∃ p, p3 ++ N = p := ⟨_, rfl⟩
 have hn4 : ¬ 9223372036854775807 < p3.size + N.size := by omega
 have z4 : p4.size ≤ 99 := by rw [← hp4, ByteArray.size_append]; omega
 obtain ⟨p5, hp5⟩ : ∃ p, p4 ++ (⟨#[32]⟩ : ByteArray) = p := ⟨_, rfl⟩
 have hn5 : ¬ 9223372036854775807 < p4.size + 1 := by omega
 have z5 : p5.size ≤ 100 := by rw [← hp5, ByteArray.size_append]; omega
 obtain ⟨p6, hp6⟩ : ∃ p, p5 ++ Af = p := ⟨_, rfl⟩
 have hn6 : ¬ 9223372036854775807 < p5.size + Af.size := by omega
 have z6 : p6.size ≤ 124 := by rw [← hp6, ByteArray.size_append]; omega
 obtain ⟨p7, hp7⟩ : ∃ p, p6 ++ (⟨#[32]⟩ : ByteArray) = p := ⟨_, rfl⟩
 have hn7 : ¬ 9223372036854775807 < p6.size + 1 := by omega
 have z7 : p7.size ≤ 125 := by rw [← hp7, ByteArray.size_append]; omega
 obtain ⟨p8, hp8⟩ : ∃ p, p7 ++ X = p := ⟨_, rfl⟩
 have hn8 : ¬ 9223372036854775807 < p7.size + X.size := by omega
 have z8 : p8.size ≤ 2825 := by rw [← hp8, ByteArray.size_append]; omega
 have HTT : Hid (p8 = T) := hid (by
  rw [← hT, ← hp8, ← hp7, ← hp6, ← hp5, ← hp4, ← hp3, ← hp2, ← hp1, ← hU, ← hDp, ← hN, ← hAf, ← hX, show (⟨#[32]⟩ : ByteArray) = bts [32] from rfl, bts_append, bts_append, bts_append, bts_append, bts_append, bts_append, bts_append, bts_append]
  unfold Jb.text
  simp)
 have HAT : Hid ((l = [] → Af = ⟨#[45]⟩) ∧ (l ≠ [] → bts (Nt.joinC (l.map Nt.decI)) = Af ∧ Nt.joinC (l.map Nt.decI) ≠ [])) := hid ⟨fun h => by rw [← hAf, h]; rfl, fun h => ⟨by rw [← hAf]; unfold aftT; rw [if_neg h], fun e => by
  cases l with
  | nil => exact h rfl
  | cons m l =>
   cases l with
   | nil => simp [Nt.joinC, decI_ne] at e
   | cons m2 l => simp [Nt.joinC] at e⟩⟩
 have HN := hid hn
 have HBD := hid hgb
 have h8 : n ≤ 8 := by omega
 have HR0 : Hid (⟨#[]⟩ = bts (Nt.joinC ((l.take 0).map Nt.decI))) := hid rfl
 have HLEN : Hid (∀ k, k ≤ n → (bts (Nt.joinC ((l.take k).map Nt.decI))).size ≤ 24) := hid (fun k hk => by
  rw [bts_size]
  have h1 := joinC_len (m := 2) ((l.take k).map Nt.decI) (decs_len (l.take k) (fun m hm => hgb m (List.mem_of_mem_take hm)))
  rw [List.length_map, List.length_take] at h1
  omega)
 rw [hT]
 clear hp hf hU hn g1 g2 g3 g4 g5 g6 s1 s2 s3 s4 s5 hgb hN hX hDp hAf hT hb0 n1 n2 n3
 go_enter Tryz.func10, Tryz.ntmps10
 go_upto_region 1 with fail
 rw [← hW0, ← hB]
 clear hW0 hB
 go_wp2_with fail
 go_loopg [3, 9] n (fun g y z wr => ∃ (k : Nat) (S : ByteArray), k + g = n ∧ y = .string S ∧ z = .int .i64 (k : Int) ∧ Hid (S = bts (Nt.joinC ((l.take k).map Nt.decI))) ∧ Hid (Below W0.heap.size W0 wr))
 case atStart => exact ⟨0, ⟨#[]⟩, by omega, rfl, rfl, HR0, hid (Below.refl _ _)⟩
 case round =>
  obtain ⟨k, S, hk, rfl, rfl, HS, HW⟩ := hrel
  have HK := hid hk
  have d0 := (HW.out.cell (p := ⟨B, 0, none⟩) hBl).trans b0
  have d1 := (HW.out.cell (p := ⟨B, 1, none⟩) hBl).trans b1
  have d2 := (HW.out.cell (p := ⟨B, 2, none⟩) hBl).trans b2
  have d3 := (HW.out.cell (p := ⟨B, 3, none⟩) hBl).trans b3
  have d4 := (HW.out.cell (p := ⟨B, 4, none⟩) hBl).trans b4
  have d5 := (HW.out.cell (p := ⟨B, 5, none⟩) hBl).trans b5
  have d6 := (HW.out.cell (p := ⟨B, 6, none⟩) hBl).trans b6
  have d7 := (HW.out.cell (p := ⟨B, 7, none⟩) hBl).trans b7
  have d8 := (HW.out.cell (p := ⟨B, 8, none⟩) hBl).trans b8
  have d9 := (HW.out.cell (p := ⟨B, 9, none⟩) hBl).trans b9
  have d10 := (HW.out.cell (p := ⟨B, 10, none⟩) hBl).trans b10
  have hdl := Nat.lt_of_lt_of_le hBl HW.out.size
  have hBw := HB0.out.trans (HW.out.mono HB0.out.size)
  have HBW := hid hBw
  have hSz : S.size ≤ 24 := by rw [HS.out]; exact HLEN.out k (by omega)
  by_cases hkn : k < n
  ·obtain ⟨m, hm⟩ : ∃ m, l[k]? = some m := ⟨_, List.getElem?_eq_getElem (by rw [HN.out]; exact hkn)⟩
   obtain ⟨bb, off, rfl, hbl, hcells⟩ := aft_cell (HVV.out wr hBw) hm
   have hcell := hcells k m hm
   have hk1 : (0 : Int) ≤ (k : Int) := by omega
   have hk2 : (k : Int) < (n : Int) := by omega
   have hbm := HBD.out m (List.mem_of_getElem? hm)
   have HDM := hid (HDC.out m wr (by omega) (by omega))
   obtain ⟨Dm, hDm⟩ : ∃ N, bts (Nt.decI m) = N := ⟨_, rfl⟩
   rw [hDm] at HDM
   have zD : Dm.size ≤ 5 := by rw [← hDm, bts_size]; exact decI_len (by omega) (by omega)
   have HNEW : Hid (bts (Nt.joinC ((l.take (k + 1)).map Nt.decI)) = if k = 0 then S ++ Dm else S ++ (⟨#[44]⟩ : ByteArray) ++ Dm) := hid (by
    rw [take_snoc hm, List.map_append, List.map_cons, List.map_nil, joinC_snoc, HS.out, ← hDm]
    by_cases h0 : k = 0
    ·subst h0
     rw [if_pos rfl, if_pos (by simp)]
     simp [Nt.joinC, bts_append]
    ·rw [if_neg h0, if_neg (by
      intro e
      have := congrArg List.length e
      rw [List.length_map, List.length_take, List.length_nil] at this
      have h2 := HN.out
      omega), show (⟨#[44]⟩ : ByteArray) = bts [44] from rfl, bts_append, bts_append]
     simp)
   have e44 : (⟨#[44]⟩ : ByteArray).size = 1 := rfl
   obtain ⟨q1, hq1⟩ : ∃ p, S ++ (⟨#[44]⟩ : ByteArray) = p := ⟨_, rfl⟩
   have hz1 : q1.size ≤ 25 := by rw [← hq1, ByteArray.size_append]; omega
   have hm1 : ¬ 9223372036854775807 < S.size + 1 := by omega
   have hm2 : ¬ 9223372036854775807 < q1.size + Dm.size := by omega
   have hm3 : ¬ 9223372036854775807 < S.size + Dm.size := by omega
   clear hm hk hcells hbm hDm
   by_cases h0 : k = 0
   ·subst h0
    rw [if_pos rfl] at HNEW
    rw [Nat.add_zero] at hcell
    go_wp2_with fail
    refine Calls.mono HDM.out ?_
    rintro e w1 ⟨rfl, hb1⟩
    have HB1 := hid (HW.out.trans (hb1.mono HW.out.size))
    clear hb1
    go_wp2_with fail
    go_roundg (n - (0 + 1))
    case measure => (have := HK.out; omega)
    case rel => exact ⟨0 + 1, S ++ Dm, by have := HK.out; omega, rfl, by simp, hid HNEW.out.symm, HB1⟩
   ·have hk0 : (0 : Int) < (k : Int) := by omega
    rw [if_neg h0, hq1] at HNEW
    clear h0
    go_wp2_with fail
    refine Calls.mono HDM.out ?_
    rintro e w1 ⟨rfl, hb1⟩
    have HB1 := hid (HW.out.trans (hb1.mono HW.out.size))
    clear hb1
    go_wp2_with fail
    go_roundg (n - (k + 1))
    case measure => (have := HK.out; omega)
    case rel => exact ⟨k + 1, q1 ++ Dm, by have := HK.out; omega, rfl, by simp, hid HNEW.out.symm, HB1⟩
  ·have hk2 : ¬ (k : Int) < (n : Int) := by omega
   have HFULL : Hid (S = bts (Nt.joinC (l.map Nt.decI))) := hid (by rw [HS.out, List.take_of_length_le (by have := HN.out; have := HK.out; omega)])
   have HPICK : Hid ((S.toList = [] ∧ Af = ⟨#[45]⟩) ∨ (S.toList ≠ [] ∧ S = Af)) := hid (by
    by_cases hl : l = []
    ·left
     exact ⟨by rw [HFULL.out, hl, bts_toList]; rfl, HAT.out.1 hl⟩
    ·right
     obtain ⟨f1, f2⟩ := HAT.out.2 hl
     exact ⟨by rw [HFULL.out, bts_toList]; exact f2, by rw [HFULL.out]; exact f1⟩)
   clear hk hkn
   rcases HPICK.out with ⟨hS1, hAf⟩ | ⟨hS1, rfl⟩
   ·have hS2 : (S.toList == []) = true := by rw [hS1]; rfl
    subst hAf
    have hn6' : ¬ 9223372036854775807 < p5.size + 1 := by omega
    go_upto_region 11 with fail
    refine wp_region_held_drew (S := fun W => Below wr.heap.size wr W) (by kernel_rfl) ((Below.refl _ _).drew) (fun hHeld => ?_)
    refine wpAnyH_take (i := 0) (v := ?vb2b0x1) rfl (by kernel_rfl) (by kernel_rfl) (by kernel_rfl) (fun _ _ _ h => h) (Or.inl ⟨by rfl, ?hyb2b0x1⟩) (by assumption) ?restb2b0x1
    case hyb2b0x1 =>
     intro w hSw
     (try dsimp only at hSw)
     go_simp
     (try with_reducible rfl)
    change wpAnyH _ _ _ _ _ _ _ (Act.put _ (some 25) _) _
    try simp only [Act.put, qa1, qa2, qa3]
    refine wpAnyH_take (i := 1) (v := ?vb2b1x2) rfl (by kernel_rfl) (by kernel_rfl) (by kernel_rfl) (fun _ _ _ h => h) (Or.inl ⟨by rfl, ?hyb2b1x2⟩) (by assumption) ?restb2b1x2
    case hyb2b1x2 =>
     intro w hSw
     (try dsimp only at hSw)
     have d0 := (hSw.cell (p := ⟨B, 0, none⟩) hdl).trans d0
     have d1 := (hSw.cell (p := ⟨B, 1, none⟩) hdl).trans d1
     have d2 := (hSw.cell (p := ⟨B, 2, none⟩) hdl).trans d2
     have d3 := (hSw.cell (p := ⟨B, 3, none⟩) hdl).trans d3
     have d4 := (hSw.cell (p := ⟨B, 4, none⟩) hdl).trans d4
     have d5 := (hSw.cell (p := ⟨B, 5, none⟩) hdl).trans d5
     have d6 := (hSw.cell (p := ⟨B, 6, none⟩) hdl).trans d6
     have d7 := (hSw.cell (p := ⟨B, 7, none⟩) hdl).trans d7
     have d8 := (hSw.cell (p := ⟨B, 8, none⟩) hdl).trans d8
     have d9 := (hSw.cell (p := ⟨B, 9, none⟩) hdl).trans d9
     have d10 := (hSw.cell (p := ⟨B, 10, none⟩) hdl).trans d10
     go_simp
     (try with_reducible rfl)
    change wpAnyH _ _ _ _ _ _ _ (Act.put _ (some 26) _) _
    try simp only [Act.put, qa1, qa2, qa3]
    refine wpAnyH_take (i := 2) (v := ?vb2b2x3) rfl (by kernel_rfl) (by kernel_rfl) (by kernel_rfl) (fun _ _ _ h => h) (Or.inl ⟨by rfl, ?hyb2b2x3⟩) (by assumption) ?restb2b2x3
    case hyb2b2x3 =>
     intro w hSw
     (try dsimp only at hSw)
     go_simp
     (try with_reducible rfl)
    change wpAnyH _ _ _ _ _ _ _ (Act.put _ (some 27) _) _
    try simp only [Act.put, qa1, qa2, qa3]
    refine wpAnyH_take (i := 3) (v := ?vb2b3x4) rfl (by kernel_rfl) (by kernel_rfl) (by kernel_rfl) (fun _ _ _ h => h) (Or.inl ⟨by rfl, ?hyb2b3x4⟩) (by assumption) ?restb2b3x4
    case hyb2b3x4 =>
     intro w hSw
     (try dsimp only at hSw)
     go_simp
     (try with_reducible rfl)
    change wpAnyH _ _ _ _ _ _ _ (Act.put _ (some 28) _) _
    try simp only [Act.put, qa1, qa2, qa3]
    refine wpAnyH_take (i := 4) (v := ?vb2b4x5) rfl (by kernel_rfl) (by kernel_rfl) (by kernel_rfl) (fun _ _ _ h => h) (Or.inl ⟨by rfl, ?hyb2b4x5⟩) (by assumption) ?restb2b4x5
    case hyb2b4x5 =>
     intro w hSw
     (try dsimp only at hSw)
     have d0 := (hSw.cell (p := ⟨B, 0, none⟩) hdl).trans d0
     have d1 := (hSw.cell (p := ⟨B, 1, none⟩) hdl).trans d1
     have d2 := (hSw.cell (p := ⟨B, 2, none⟩) hdl).trans d2
     have d3 := (hSw.cell (p := ⟨B, 3, none⟩) hdl).trans d3
     have d4 := (hSw.cell (p := ⟨B, 4, none⟩) hdl).trans d4
     have d5 := (hSw.cell (p := ⟨B, 5, none⟩) hdl).trans d5
     have d6 := (hSw.cell (p := ⟨B, 6, none⟩) hdl).trans d6
     have d7 := (hSw.cell (p := ⟨B, 7, none⟩) hdl).trans d7
     have d8 := (hSw.cell (p := ⟨B, 8, none⟩) hdl).trans d8
     have d9 := (hSw.cell (p := ⟨B, 9, none⟩) hdl).trans d9
     have d10 := (hSw.cell (p := ⟨B, 10, none⟩) hdl).trans d10
     go_simp
     (try with_reducible rfl)
    change wpAnyH _ _ _ _ _ _ _ (Act.put _ (some 29) _) _
    try simp only [Act.put, qa1, qa2, qa3]
    refine wpAnyH_take (i := 8) (v := ?vb2b8x6) rfl (by kernel_rfl) (by kernel_rfl) (by kernel_rfl) (fun _ _ _ h => h) (Or.inl ⟨by rfl, ?hyb2b8x6⟩) (by assumption) ?restb2b8x6
    case hyb2b8x6 =>
     intro w hSw
     (try dsimp only at hSw)
     go_simp
     (try with_reducible rfl)
    change wpAnyH _ _ _ _ _ _ _ (Act.put _ (some 33) _) _
    try simp only [Act.put, qa1, qa2, qa3]
    refine wpAnyH_take (i := 9) (v := ?vb2b9x7) rfl (by kernel_rfl) (by kernel_rfl) (by kernel_rfl) (fun _ _ _ h => h) (Or.inl ⟨by rfl, ?hyb2b9x7⟩) (by assumption) ?restb2b9x7
    case hyb2b9x7 =>
     intro w hSw
     (try dsimp only at hSw)
     have d0 := (hSw.cell (p := ⟨B, 0, none⟩) hdl).trans d0
     have d1 := (hSw.cell (p := ⟨B, 1, none⟩) hdl).trans d1
     have d2 := (hSw.cell (p := ⟨B, 2, none⟩) hdl).trans d2
     have d3 := (hSw.cell (p := ⟨B, 3, none⟩) hdl).trans d3
     have d4 := (hSw.cell (p := ⟨B, 4, none⟩) hdl).trans d4
     have d5 := (hSw.cell (p := ⟨B, 5, none⟩) hdl).trans d5
     have d6 := (hSw.cell (p := ⟨B, 6, none⟩) hdl).trans d6
     have d7 := (hSw.cell (p := ⟨B, 7, none⟩) hdl).trans d7
     have d8 := (hSw.cell (p := ⟨B, 8, none⟩) hdl).trans d8
     have d9 := (hSw.cell (p := ⟨B, 9, none⟩) hdl).trans d9
     have d10 := (hSw.cell (p := ⟨B, 10, none⟩) hdl).trans d10
     go_simp
     (try with_reducible rfl)
    change wpAnyH _ _ _ _ _ _ _ (Act.put _ (some 34) _) _
    try simp only [Act.put, qa1, qa2, qa3]
    refine wpAnyH_take (i := 13) (v := ?vb2b13x8) rfl (by kernel_rfl) (by kernel_rfl) (by kernel_rfl) (fun _ _ _ h => h) (Or.inl ⟨by rfl, ?hyb2b13x8⟩) (by assumption) ?restb2b13x8
    case hyb2b13x8 =>
     intro w hSw
     (try dsimp only at hSw)
     go_simp
     (try with_reducible rfl)
    change wpAnyH _ _ _ _ _ _ _ (Act.put _ (some 38) _) _
    try simp only [Act.put, qa1, qa2, qa3]
    refine wpAnyH_take (i := 16) (v := ?vb2b16x9) rfl (by kernel_rfl) (by kernel_rfl) (by kernel_rfl) (fun _ _ _ h => h) (Or.inl ⟨by rfl, ?hyb2b16x9⟩) (by assumption) ?restb2b16x9
    case hyb2b16x9 =>
     intro w hSw
     (try dsimp only at hSw)
     go_simp
     (try with_reducible rfl)
    change wpAnyH _ _ _ _ _ _ _ (Act.put _ (some 41) _) _
    try simp only [Act.put, qa1, qa2, qa3]
    refine wpAnyH_take (i := 17) (v := ?vb2b17x10) rfl (by kernel_rfl) (by kernel_rfl) (by kernel_rfl) (fun _ _ _ h => h) (Or.inl ⟨by rfl, ?hyb2b17x10⟩) (by assumption) ?restb2b17x10
    case hyb2b17x10 =>
     intro w hSw
     (try dsimp only at hSw)
     have d0 := (hSw.cell (p := ⟨B, 0, none⟩) hdl).trans d0
     have d1 := (hSw.cell (p := ⟨B, 1, none⟩) hdl).trans d1
     have d2 := (hSw.cell (p := ⟨B, 2, none⟩) hdl).trans d2
     have d3 := (hSw.cell (p := ⟨B, 3, none⟩) hdl).trans d3
     have d4 := (hSw.cell (p := ⟨B, 4, none⟩) hdl).trans d4
     have d5 := (hSw.cell (p := ⟨B, 5, none⟩) hdl).trans d5
     have d6 := (hSw.cell (p := ⟨B, 6, none⟩) hdl).trans d6
     have d7 := (hSw.cell (p := ⟨B, 7, none⟩) hdl).trans d7
     have d8 := (hSw.cell (p := ⟨B, 8, none⟩) hdl).trans d8
     have d9 := (hSw.cell (p := ⟨B, 9, none⟩) hdl).trans d9
     have d10 := (hSw.cell (p := ⟨B, 10, none⟩) hdl).trans d10
     go_simp
     (try with_reducible rfl)
    change wpAnyH _ _ _ _ _ _ _ (Act.put _ (some 42) _) _
    try simp only [Act.put, qa1, qa2, qa3]
    refine wpAnyH_ready (rs := [5]) (by kernel_rfl) (by simp) ?_
    refine AllReadyH.cons rfl (fun K hK => ?_) AllReadyH.nil
    go_simp
    go_at_call 41
    refine Calls.mono (HDP.out _) ?_
    rintro e w1 ⟨rfl, hb1⟩
    (try go_wp2_with fail)
    refine hK.out _ _ (hHeld.trans (hb1.mono hHeld.size)) (fun hHeld => ?_)
    clear hK K
    try simp only [Act.put, qa1, qa2, qa3]
    refine wpAnyH_take (i := 6) (v := ?vb2b6x11) rfl (by kernel_rfl) (by kernel_rfl) (by kernel_rfl) (fun _ _ _ h => h) (Or.inl ⟨by rfl, ?hyb2b6x11⟩) (by assumption) ?restb2b6x11
    case hyb2b6x11 =>
     intro w hSw
     (try dsimp only at hSw)
     go_simp
     (try with_reducible rfl)
    change wpAnyH _ _ _ _ _ _ _ (Act.put _ (some 31) _) _
    try simp only [Act.put, qa1, qa2, qa3]
    refine wpAnyH_take (i := 7) (v := ?vb2b7x12) rfl (by kernel_rfl) (by kernel_rfl) (by kernel_rfl) (fun _ _ _ h => h) (Or.inl ⟨by rfl, ?hyb2b7x12⟩) (by assumption) ?restb2b7x12
    case hyb2b7x12 =>
     intro w hSw
     (try dsimp only at hSw)
     go_simp
     (try with_reducible rfl)
    change wpAnyH _ _ _ _ _ _ _ (Act.put _ (some 32) _) _
    try simp only [Act.put, qa1, qa2, qa3]
    refine wpAnyH_ready (rs := [10]) (by kernel_rfl) (by simp) ?_
    refine AllReadyH.cons rfl (fun K hK => ?_) AllReadyH.nil
    go_simp
    go_at_call 42
    refine Calls.mono (HND.out _) ?_
    rintro e w2 ⟨rfl, hb2⟩
    (try go_wp2_with fail)
    refine hK.out _ _ (hHeld.trans (hb2.mono hHeld.size)) (fun hHeld => ?_)
    clear hK K
    try simp only [Act.put, qa1, qa2, qa3]
    refine wpAnyH_take (i := 11) (v := ?vb2b11x13) rfl (by kernel_rfl) (by kernel_rfl) (by kernel_rfl) (fun _ _ _ h => h) (Or.inl ⟨by rfl, ?hyb2b11x13⟩) (by assumption) ?restb2b11x13
    case hyb2b11x13 =>
     intro w hSw
     (try dsimp only at hSw)
     go_simp
     (try with_reducible rfl)
    change wpAnyH _ _ _ _ _ _ _ (Act.put _ (some 36) _) _
    try simp only [Act.put, qa1, qa2, qa3]
    refine wpAnyH_take (i := 12) (v := ?vb2b12x14) rfl (by kernel_rfl) (by kernel_rfl) (by kernel_rfl) (fun _ _ _ h => h) (Or.inl ⟨by rfl, ?hyb2b12x14⟩) (by assumption) ?restb2b12x14
    case hyb2b12x14 =>
     intro w hSw
     (try dsimp only at hSw)
     go_simp
     (try with_reducible rfl)
    change wpAnyH _ _ _ _ _ _ _ (Act.put _ (some 37) _) _
    try simp only [Act.put, qa1, qa2, qa3]
    refine wpAnyH_take (i := 14) (v := ?vb2b14x15) rfl (by kernel_rfl) (by kernel_rfl) (by kernel_rfl) (fun _ _ _ h => h) (Or.inl ⟨by rfl, ?hyb2b14x15⟩) (by assumption) ?restb2b14x15
    case hyb2b14x15 =>
     intro w hSw
     (try dsimp only at hSw)
     go_simp
     (try with_reducible rfl)
    change wpAnyH _ _ _ _ _ _ _ (Act.put _ (some 39) _) _
    try simp only [Act.put, qa1, qa2, qa3]
    refine wpAnyH_take (i := 15) (v := ?vb2b15x16) rfl (by kernel_rfl) (by kernel_rfl) (by kernel_rfl) (fun _ _ _ h => h) (Or.inl ⟨by rfl, ?hyb2b15x16⟩) (by assumption) ?restb2b15x16
    case hyb2b15x16 =>
     intro w hSw
     (try dsimp only at hSw)
     go_simp
     (try with_reducible rfl)
    change wpAnyH _ _ _ _ _ _ _ (Act.put _ (some 40) _) _
    try simp only [Act.put, qa1, qa2, qa3]
    refine wpAnyH_ready (rs := [18]) (by kernel_rfl) (by simp) ?_
    refine AllReadyH.cons rfl (fun K hK => ?_) AllReadyH.nil
    go_simp
    go_at_call 43
    refine Calls.mono (HAX.out _ (HBW.out.trans (hHeld.mono HBW.out.size))) ?_
    rintro e w3 ⟨rfl, hb3⟩
    (try go_wp2_with fail)
    refine hK.out _ _ (hHeld.trans (hb3.mono hHeld.size)) (fun hHeld => ?_)
    clear hK K
    try simp only [Act.put, qa1, qa2, qa3]
    refine wpAnyH_take (i := 19) (v := ?vb2b19x17) rfl (by kernel_rfl) (by kernel_rfl) (by kernel_rfl) (fun _ _ _ h => h) (Or.inl ⟨by rfl, ?hyb2b19x17⟩) (by assumption) ?restb2b19x17
    case hyb2b19x17 =>
     intro w hSw
     (try dsimp only at hSw)
     go_simp
     (try with_reducible rfl)
    change wpAnyH _ _ _ _ _ _ _ (Act.put _ (some 44) _) _
    try simp only [Act.put, qa1, qa2, qa3]
    refine wpAnyH_take (i := 20) (v := ?vb2b20x18) rfl (by kernel_rfl) (by kernel_rfl) (by kernel_rfl) (fun _ _ _ h => h) (Or.inl ⟨by rfl, ?hyb2b20x18⟩) (by assumption) ?restb2b20x18
    case hyb2b20x18 =>
     intro w hSw
     (try dsimp only at hSw)
     go_simp
     (try with_reducible rfl)
    change wpAnyH _ _ _ _ _ _ _ (Act.put _ (some 2) _) _
    try simp only [Act.put, qa1, qa2, qa3]
    refine wpAnyH_done (by kernel_rfl) ?_ _
    go_wp2_with fail
    go_ret
    exact ⟨by rw [← HTT.out]; rfl, HBW.out.trans (hHeld.mono HBW.out.size)⟩
   ·have hS2 : (S.toList == []) = false := by simpa using hS1
    go_upto_region 11 with fail
    refine wp_region_held_drew (S := fun W => Below wr.heap.size wr W) (by kernel_rfl) ((Below.refl _ _).drew) (fun hHeld => ?_)
    refine wpAnyH_take (i := 0) (v := ?vb2b0x19) rfl (by kernel_rfl) (by kernel_rfl) (by kernel_rfl) (fun _ _ _ h => h) (Or.inl ⟨by rfl, ?hyb2b0x19⟩) (by assumption) ?restb2b0x19
    case hyb2b0x19 =>
     intro w hSw
     (try dsimp only at hSw)
     go_simp
     (try with_reducible rfl)
    change wpAnyH _ _ _ _ _ _ _ (Act.put _ (some 25) _) _
    try simp only [Act.put, qa1, qa2, qa3]
    refine wpAnyH_take (i := 1) (v := ?vb2b1x20) rfl (by kernel_rfl) (by kernel_rfl) (by kernel_rfl) (fun _ _ _ h => h) (Or.inl ⟨by rfl, ?hyb2b1x20⟩) (by assumption) ?restb2b1x20
    case hyb2b1x20 =>
     intro w hSw
     (try dsimp only at hSw)
     have d0 := (hSw.cell (p := ⟨B, 0, none⟩) hdl).trans d0
     have d1 := (hSw.cell (p := ⟨B, 1, none⟩) hdl).trans d1
     have d2 := (hSw.cell (p := ⟨B, 2, none⟩) hdl).trans d2
     have d3 := (hSw.cell (p := ⟨B, 3, none⟩) hdl).trans d3
     have d4 := (hSw.cell (p := ⟨B, 4, none⟩) hdl).trans d4
     have d5 := (hSw.cell (p := ⟨B, 5, none⟩) hdl).trans d5
     have d6 := (hSw.cell (p := ⟨B, 6, none⟩) hdl).trans d6
     have d7 := (hSw.cell (p := ⟨B, 7, none⟩) hdl).trans d7
     have d8 := (hSw.cell (p := ⟨B, 8, none⟩) hdl).trans d8
     have d9 := (hSw.cell (p := ⟨B, 9, none⟩) hdl).trans d9
     have d10 := (hSw.cell (p := ⟨B, 10, none⟩) hdl).trans d10
     go_simp
     (try with_reducible rfl)
    change wpAnyH _ _ _ _ _ _ _ (Act.put _ (some 26) _) _
    try simp only [Act.put, qa1, qa2, qa3]
    refine wpAnyH_take (i := 2) (v := ?vb2b2x21) rfl (by kernel_rfl) (by kernel_rfl) (by kernel_rfl) (fun _ _ _ h => h) (Or.inl ⟨by rfl, ?hyb2b2x21⟩) (by assumption) ?restb2b2x21
    case hyb2b2x21 =>
     intro w hSw
     (try dsimp only at hSw)
     go_simp
     (try with_reducible rfl)
    change wpAnyH _ _ _ _ _ _ _ (Act.put _ (some 27) _) _
    try simp only [Act.put, qa1, qa2, qa3]
    refine wpAnyH_take (i := 3) (v := ?vb2b3x22) rfl (by kernel_rfl) (by kernel_rfl) (by kernel_rfl) (fun _ _ _ h => h) (Or.inl ⟨by rfl, ?hyb2b3x22⟩) (by assumption) ?restb2b3x22
    case hyb2b3x22 =>
     intro w hSw
     (try dsimp only at hSw)
     go_simp
     (try with_reducible rfl)
    change wpAnyH _ _ _ _ _ _ _ (Act.put _ (some 28) _) _
    try simp only [Act.put, qa1, qa2, qa3]
    refine wpAnyH_take (i := 4) (v := ?vb2b4x23) rfl (by kernel_rfl) (by kernel_rfl) (by kernel_rfl) (fun _ _ _ h => h) (Or.inl ⟨by rfl, ?hyb2b4x23⟩) (by assumption) ?restb2b4x23
    case hyb2b4x23 =>
     intro w hSw
     (try dsimp only at hSw)
     have d0 := (hSw.cell (p := ⟨B, 0, none⟩) hdl).trans d0
     have d1 := (hSw.cell (p := ⟨B, 1, none⟩) hdl).trans d1
     have d2 := (hSw.cell (p := ⟨B, 2, none⟩) hdl).trans d2
     have d3 := (hSw.cell (p := ⟨B, 3, none⟩) hdl).trans d3
     have d4 := (hSw.cell (p := ⟨B, 4, none⟩) hdl).trans d4
     have d5 := (hSw.cell (p := ⟨B, 5, none⟩) hdl).trans d5
     have d6 := (hSw.cell (p := ⟨B, 6, none⟩) hdl).trans d6
     have d7 := (hSw.cell (p := ⟨B, 7, none⟩) hdl).trans d7
     have d8 := (hSw.cell (p := ⟨B, 8, none⟩) hdl).trans d8
     have d9 := (hSw.cell (p := ⟨B, 9, none⟩) hdl).trans d9
     have d10 := (hSw.cell (p := ⟨B, 10, none⟩) hdl).trans d10
     go_simp
     (try with_reducible rfl)
    change wpAnyH _ _ _ _ _ _ _ (Act.put _ (some 29) _) _
    try simp only [Act.put, qa1, qa2, qa3]
    refine wpAnyH_take (i := 8) (v := ?vb2b8x24) rfl (by kernel_rfl) (by kernel_rfl) (by kernel_rfl) (fun _ _ _ h => h) (Or.inl ⟨by rfl, ?hyb2b8x24⟩) (by assumption) ?restb2b8x24
    case hyb2b8x24 =>
     intro w hSw
     (try dsimp only at hSw)
     go_simp
     (try with_reducible rfl)
    change wpAnyH _ _ _ _ _ _ _ (Act.put _ (some 33) _) _
    try simp only [Act.put, qa1, qa2, qa3]
    refine wpAnyH_take (i := 9) (v := ?vb2b9x25) rfl (by kernel_rfl) (by kernel_rfl) (by kernel_rfl) (fun _ _ _ h => h) (Or.inl ⟨by rfl, ?hyb2b9x25⟩) (by assumption) ?restb2b9x25
    case hyb2b9x25 =>
     intro w hSw
     (try dsimp only at hSw)
     have d0 := (hSw.cell (p := ⟨B, 0, none⟩) hdl).trans d0
     have d1 := (hSw.cell (p := ⟨B, 1, none⟩) hdl).trans d1
     have d2 := (hSw.cell (p := ⟨B, 2, none⟩) hdl).trans d2
     have d3 := (hSw.cell (p := ⟨B, 3, none⟩) hdl).trans d3
     have d4 := (hSw.cell (p := ⟨B, 4, none⟩) hdl).trans d4
     have d5 := (hSw.cell (p := ⟨B, 5, none⟩) hdl).trans d5
     have d6 := (hSw.cell (p := ⟨B, 6, none⟩) hdl).trans d6
     have d7 := (hSw.cell (p := ⟨B, 7, none⟩) hdl).trans d7
     have d8 := (hSw.cell (p := ⟨B, 8, none⟩) hdl).trans d8
     have d9 := (hSw.cell (p := ⟨B, 9, none⟩) hdl).trans d9
     have d10 := (hSw.cell (p := ⟨B, 10, none⟩) hdl).trans d10
     go_simp
     (try with_reducible rfl)
    change wpAnyH _ _ _ _ _ _ _ (Act.put _ (some 34) _) _
    try simp only [Act.put, qa1, qa2, qa3]
    refine wpAnyH_take (i := 13) (v := ?vb2b13x26) rfl (by kernel_rfl) (by kernel_rfl) (by kernel_rfl) (fun _ _ _ h => h) (Or.inl ⟨by rfl, ?hyb2b13x26⟩) (by assumption) ?restb2b13x26
    case hyb2b13x26 =>
     intro w hSw
     (try dsimp only at hSw)
     go_simp
     (try with_reducible rfl)
    change wpAnyH _ _ _ _ _ _ _ (Act.put _ (some 38) _) _
    try simp only [Act.put, qa1, qa2, qa3]
    refine wpAnyH_take (i := 16) (v := ?vb2b16x27) rfl (by kernel_rfl) (by kernel_rfl) (by kernel_rfl) (fun _ _ _ h => h) (Or.inl ⟨by rfl, ?hyb2b16x27⟩) (by assumption) ?restb2b16x27
    case hyb2b16x27 =>
     intro w hSw
     (try dsimp only at hSw)
     go_simp
     (try with_reducible rfl)
    change wpAnyH _ _ _ _ _ _ _ (Act.put _ (some 41) _) _
    try simp only [Act.put, qa1, qa2, qa3]
    refine wpAnyH_take (i := 17) (v := ?vb2b17x28) rfl (by kernel_rfl) (by kernel_rfl) (by kernel_rfl) (fun _ _ _ h => h) (Or.inl ⟨by rfl, ?hyb2b17x28⟩) (by assumption) ?restb2b17x28
    case hyb2b17x28 =>
     intro w hSw
     (try dsimp only at hSw)
     have d0 := (hSw.cell (p := ⟨B, 0, none⟩) hdl).trans d0
     have d1 := (hSw.cell (p := ⟨B, 1, none⟩) hdl).trans d1
     have d2 := (hSw.cell (p := ⟨B, 2, none⟩) hdl).trans d2
     have d3 := (hSw.cell (p := ⟨B, 3, none⟩) hdl).trans d3
     have d4 := (hSw.cell (p := ⟨B, 4, none⟩) hdl).trans d4
     have d5 := (hSw.cell (p := ⟨B, 5, none⟩) hdl).trans d5
     have d6 := (hSw.cell (p := ⟨B, 6, none⟩) hdl).trans d6
     have d7 := (hSw.cell (p := ⟨B, 7, none⟩) hdl).trans d7
     have d8 := (hSw.cell (p := ⟨B, 8, none⟩) hdl).trans d8
     have d9 := (hSw.cell (p := ⟨B, 9, none⟩) hdl).trans d9
     have d10 := (hSw.cell (p := ⟨B, 10, none⟩) hdl).trans d10
     go_simp
     (try with_reducible rfl)
    change wpAnyH _ _ _ _ _ _ _ (Act.put _ (some 42) _) _
    try simp only [Act.put, qa1, qa2, qa3]
    refine wpAnyH_ready (rs := [5]) (by kernel_rfl) (by simp) ?_
    refine AllReadyH.cons rfl (fun K hK => ?_) AllReadyH.nil
    go_simp
    go_at_call 41
    refine Calls.mono (HDP.out _) ?_
    rintro e w1 ⟨rfl, hb1⟩
    (try go_wp2_with fail)
    refine hK.out _ _ (hHeld.trans (hb1.mono hHeld.size)) (fun hHeld => ?_)
    clear hK K
    try simp only [Act.put, qa1, qa2, qa3]
    refine wpAnyH_take (i := 6) (v := ?vb2b6x29) rfl (by kernel_rfl) (by kernel_rfl) (by kernel_rfl) (fun _ _ _ h => h) (Or.inl ⟨by rfl, ?hyb2b6x29⟩) (by assumption) ?restb2b6x29
    case hyb2b6x29 =>
     intro w hSw
     (try dsimp only at hSw)
     go_simp
     (try with_reducible rfl)
    change wpAnyH _ _ _ _ _ _ _ (Act.put _ (some 31) _) _
    try simp only [Act.put, qa1, qa2, qa3]
    refine wpAnyH_take (i := 7) (v := ?vb2b7x30) rfl (by kernel_rfl) (by kernel_rfl) (by kernel_rfl) (fun _ _ _ h => h) (Or.inl ⟨by rfl, ?hyb2b7x30⟩) (by assumption) ?restb2b7x30
    case hyb2b7x30 =>
     intro w hSw
     (try dsimp only at hSw)
     go_simp
     (try with_reducible rfl)
    change wpAnyH _ _ _ _ _ _ _ (Act.put _ (some 32) _) _
    try simp only [Act.put, qa1, qa2, qa3]
    refine wpAnyH_ready (rs := [10]) (by kernel_rfl) (by simp) ?_
    refine AllReadyH.cons rfl (fun K hK => ?_) AllReadyH.nil
    go_simp
    go_at_call 42
    refine Calls.mono (HND.out _) ?_
    rintro e w2 ⟨rfl, hb2⟩
    (try go_wp2_with fail)
    refine hK.out _ _ (hHeld.trans (hb2.mono hHeld.size)) (fun hHeld => ?_)
    clear hK K
    try simp only [Act.put, qa1, qa2, qa3]
    refine wpAnyH_take (i := 11) (v := ?vb2b11x31) rfl (by kernel_rfl) (by kernel_rfl) (by kernel_rfl) (fun _ _ _ h => h) (Or.inl ⟨by rfl, ?hyb2b11x31⟩) (by assumption) ?restb2b11x31
    case hyb2b11x31 =>
     intro w hSw
     (try dsimp only at hSw)
     go_simp
     (try with_reducible rfl)
    change wpAnyH _ _ _ _ _ _ _ (Act.put _ (some 36) _) _
    try simp only [Act.put, qa1, qa2, qa3]
    refine wpAnyH_take (i := 12) (v := ?vb2b12x32) rfl (by kernel_rfl) (by kernel_rfl) (by kernel_rfl) (fun _ _ _ h => h) (Or.inl ⟨by rfl, ?hyb2b12x32⟩) (by assumption) ?restb2b12x32
    case hyb2b12x32 =>
     intro w hSw
     (try dsimp only at hSw)
     go_simp
     (try with_reducible rfl)
    change wpAnyH _ _ _ _ _ _ _ (Act.put _ (some 37) _) _
    try simp only [Act.put, qa1, qa2, qa3]
    refine wpAnyH_take (i := 14) (v := ?vb2b14x33) rfl (by kernel_rfl) (by kernel_rfl) (by kernel_rfl) (fun _ _ _ h => h) (Or.inl ⟨by rfl, ?hyb2b14x33⟩) (by assumption) ?restb2b14x33
    case hyb2b14x33 =>
     intro w hSw
     (try dsimp only at hSw)
     go_simp
     (try with_reducible rfl)
    change wpAnyH _ _ _ _ _ _ _ (Act.put _ (some 39) _) _
    try simp only [Act.put, qa1, qa2, qa3]
    refine wpAnyH_take (i := 15) (v := ?vb2b15x34) rfl (by kernel_rfl) (by kernel_rfl) (by kernel_rfl) (fun _ _ _ h => h) (Or.inl ⟨by rfl, ?hyb2b15x34⟩) (by assumption) ?restb2b15x34
    case hyb2b15x34 =>
     intro w hSw
     (try dsimp only at hSw)
     go_simp
     (try with_reducible rfl)
    change wpAnyH _ _ _ _ _ _ _ (Act.put _ (some 40) _) _
    try simp only [Act.put, qa1, qa2, qa3]
    refine wpAnyH_ready (rs := [18]) (by kernel_rfl) (by simp) ?_
    refine AllReadyH.cons rfl (fun K hK => ?_) AllReadyH.nil
    go_simp
    go_at_call 43
    refine Calls.mono (HAX.out _ (HBW.out.trans (hHeld.mono HBW.out.size))) ?_
    rintro e w3 ⟨rfl, hb3⟩
    (try go_wp2_with fail)
    refine hK.out _ _ (hHeld.trans (hb3.mono hHeld.size)) (fun hHeld => ?_)
    clear hK K
    try simp only [Act.put, qa1, qa2, qa3]
    refine wpAnyH_take (i := 19) (v := ?vb2b19x35) rfl (by kernel_rfl) (by kernel_rfl) (by kernel_rfl) (fun _ _ _ h => h) (Or.inl ⟨by rfl, ?hyb2b19x35⟩) (by assumption) ?restb2b19x35
    case hyb2b19x35 =>
     intro w hSw
     (try dsimp only at hSw)
     go_simp
     (try with_reducible rfl)
    change wpAnyH _ _ _ _ _ _ _ (Act.put _ (some 44) _) _
    try simp only [Act.put, qa1, qa2, qa3]
    refine wpAnyH_take (i := 20) (v := ?vb2b20x36) rfl (by kernel_rfl) (by kernel_rfl) (by kernel_rfl) (fun _ _ _ h => h) (Or.inl ⟨by rfl, ?hyb2b20x36⟩) (by assumption) ?restb2b20x36
    case hyb2b20x36 =>
     intro w hSw
     (try dsimp only at hSw)
     go_simp
     (try with_reducible rfl)
    change wpAnyH _ _ _ _ _ _ _ (Act.put _ (some 2) _) _
    try simp only [Act.put, qa1, qa2, qa3]
    refine wpAnyH_done (by kernel_rfl) ?_ _
    go_wp2_with fail
    go_ret
    exact ⟨by rw [← HTT.out]; rfl, HBW.out.trans (hHeld.mono HBW.out.size)⟩
end Go.Proofs.YtkemlckmfgacdaaGreatDoor
