/- Contract: the document's JobText. -/
import Derived.Test.YtkemlckmfgacdaaGreatDoorJobP5
import Derived.Test.YtkemlckmfgacdaaGreatDoorJobP3
import Derived.Test.YtkemlckmfgacdaaGreatDoorJobP6
import Derived.Test.YtkemlckmfgacdaaGreatDoorJobP0
import Derived.Below
import Derived.Test.YtkemlckmfgacdaaGreatDoorJobP1
import Derived.Test.YtkemlckmfgacdaaGreatDoorJobP4
import Derived.BigQuiet
import Derived.Deep.QuietTactic
import Derived.Deep.LoopGhost
import Derived.Deep.CutBlock
import Derived.Deep.DeepCutAuto
namespace Go.Proofs.YtkemlckmfgacdaaGreatDoor
open Go.ChangeShapes Go.WideShapes Go.ChangeAt Go.RowKit
set_option linter.unusedVariables false
set_option linter.unusedSimpArgs false
open Tp Jm
set_option maxRecDepth 20000 in
set_option maxHeartbeats 16000000 in
theorem jobTextR_any (j : Jb) (v : Value) (w : World) (hf : j.fault = 0) (hv : JobV w j v) : Calls Tryz.prog 10 #[v] w fun e w' => e = .returned (.string (bts j.text)) ∧ Below w.heap.size w w' := by
  obtain ⟨x0, x1, x2, x3, xd, xl, xc, aa, ac, rfl, hp⟩ := hv
  unfold jobVal
  obtain ⟨u, P, a, b, c, x, l⟩ := j
  simp only at hp ⊢
  obtain ⟨U, hU⟩ : ∃ U, bts u = U := ⟨_, rfl⟩
  obtain ⟨n, hn⟩ : ∃ n, l.length = n := ⟨_, rfl⟩
  rw [hU, hn]
  obtain ⟨B, hB⟩ : ∃ B, B = w.heap.size := ⟨_, rfl⟩
  obtain ⟨W0, hW0⟩ : ∃ W, W = w.alloc (.cells #[.string U, .int .i64 P, .int .i64 a, .int .i64 b, .int .i64 c, .int .i64 x0, .string x1, .string x2, .int .i64 x3, .slice xd xl xc, .slice aa n ac] 29) := ⟨_, rfl⟩
  have hb0 : Below w.heap.size w W0 := by rw [hW0]; exact (Below.refl _ _).alloc (Nat.le_refl _) _
  have b0 : W0.cell? ⟨B, 0, none⟩ = some (.string U) := by rw [hW0]; exact (cell_top _ _ _ _ _ hB).trans rfl
  have b1 : W0.cell? ⟨B, 1, none⟩ = some (.int .i64 P) := by rw [hW0]; exact (cell_top _ _ _ _ _ hB).trans rfl
  have b2 : W0.cell? ⟨B, 2, none⟩ = some (.int .i64 a) := by rw [hW0]; exact (cell_top _ _ _ _ _ hB).trans rfl
  have b3 : W0.cell? ⟨B, 3, none⟩ = some (.int .i64 b) := by rw [hW0]; exact (cell_top _ _ _ _ _ hB).trans rfl
  have b4 : W0.cell? ⟨B, 4, none⟩ = some (.int .i64 c) := by rw [hW0]; exact (cell_top _ _ _ _ _ hB).trans rfl
  have b5 : W0.cell? ⟨B, 5, none⟩ = some (.int .i64 x0) := by rw [hW0]; exact (cell_top _ _ _ _ _ hB).trans rfl
  have b6 : W0.cell? ⟨B, 6, none⟩ = some (.string x1) := by rw [hW0]; exact (cell_top _ _ _ _ _ hB).trans rfl
  have b7 : W0.cell? ⟨B, 7, none⟩ = some (.string x2) := by rw [hW0]; exact (cell_top _ _ _ _ _ hB).trans rfl
  have b8 : W0.cell? ⟨B, 8, none⟩ = some (.int .i64 x3) := by rw [hW0]; exact (cell_top _ _ _ _ _ hB).trans rfl
  have b9 : W0.cell? ⟨B, 9, none⟩ = some (.slice xd xl xc) := by rw [hW0]; exact (cell_top _ _ _ _ _ hB).trans rfl
  have b10 : W0.cell? ⟨B, 10, none⟩ = some (.slice aa n ac) := by rw [hW0]; exact (cell_top _ _ _ _ _ hB).trans rfl
  have hBl : B < W0.heap.size := by rw [hW0, hB]; simp
  have HB0 := Lib.hid hb0
  obtain ⟨g1, g2, g3, g4, g5, g6⟩ := fault_parts hf
  simp only at g1 g2 g3 g4 g5 g6
  obtain ⟨s1, s2, s3, s4, s5⟩ := text_sizes hf
  simp only at s1 s2 s3 s4 s5
  have hgb := aftE_at l 0 g6
  obtain ⟨n1, n2, n3⟩ := needB_yes g3
  have HVV : Hid (∀ W, Below w.heap.size w W → Vals W aa (ints l)) := Lib.hid (fun W h => hp.aft.below h (Nat.le_refl _))
  obtain ⟨N, hN⟩ : ∃ N, bts (Nt.needText (a.toNat, b.toNat, c.toNat)) = N := ⟨_, rfl⟩
  obtain ⟨X, hX⟩ : ∃ N, bts (Ar.txt x) = N := ⟨_, rfl⟩
  obtain ⟨Dp, hDp⟩ : ∃ N, bts (Nt.decI P) = N := ⟨_, rfl⟩
  obtain ⟨Af, hAf⟩ : ∃ N, bts (aftT l) = N := ⟨_, rfl⟩
  have HND : Hid (∀ W, Calls Tryz.prog 42 #[.agg #[.int .i64 a, .int .i64 b, .int .i64 c]] W fun e w' => e = .returned (.string N) ∧ Below W.heap.size W w') := Lib.hid (fun W => by
    have h := NeedText_any a.toNat b.toNat c.toNat (can_of g3) W
    rw [show ((a.toNat : Nat) : Int) = a by omega, show ((b.toNat : Nat) : Int) = b by omega, show ((c.toNat : Nat) : Int) = c by omega, hN] at h
    exact h)
  have HDC : Hid (∀ m W, -1000 ≤ m → m ≤ 1000 → Calls Tryz.prog 41 #[.int .i64 m] W fun e w' => e = .returned (.string (bts (Nt.decI m))) ∧ Below W.heap.size W w') := Lib.hid (fun m W h0 h1 => DecimalW_any m W (by omega) (by omega))
  have HDP : Hid (∀ W, Calls Tryz.prog 41 #[.int .i64 P] W fun e w' => e = .returned (.string Dp) ∧ Below W.heap.size W w') := Lib.hid (fun W => by rw [← hDp]; exact HDC.out P W g2.1 g2.2)
  have HAX : Hid (∀ W, Below w.heap.size w W → Calls Tryz.prog 43 #[.agg #[.int .i64 x0, .string x1, .string x2, .int .i64 x3, .slice xd xl xc]] W fun e w' => e = .returned (.string X) ∧ Below W.heap.size W w') := Lib.hid (fun W h => by
    have hg := Ar.fault_good g4
    rw [← hX]
    exact refText_all x.size x _ W (Nat.le_refl _) hg.2 (by have h := g4; unfold Ask.fault at h; rw [if_neg (by have := hg.2; omega)] at h; exact h) (AskV.below h _ _ hp.ask))
  obtain ⟨T, hT⟩ : ∃ T, bts (Jb.mk u P a b c x l).text = T := ⟨_, rfl⟩
  have zU : U.size ≤ 20 := by rw [← hU, bts_size]; exact s1
  have zDp : Dp.size ≤ 5 := by rw [← hDp, bts_size]; exact s2
  have zN : N.size ≤ 72 := by rw [← hN, bts_size]; exact s3
  have zAf : Af.size ≤ 24 := by rw [← hAf, bts_size]; exact s4
  have zX : X.size ≤ 2700 := by rw [← hX, bts_size]; exact s5
  have e32 : (⟨#[32]⟩ : ByteArray).size = 1 := rfl
  obtain ⟨p1, hp1⟩ : ∃ p, U ++ (⟨#[32]⟩ : ByteArray) = p := ⟨_, rfl⟩
  have hn1 : ¬ 9223372036854775807 < U.size + 1 := by omega
  have z1 : p1.size ≤ 21 := by rw [← hp1, ByteArray.size_append]; omega
  obtain ⟨p2, hp2⟩ : ∃ p, p1 ++ Dp = p := ⟨_, rfl⟩
  have hn2 : ¬ 9223372036854775807 < p1.size + Dp.size := by omega
  have z2 : p2.size ≤ 26 := by rw [← hp2, ByteArray.size_append]; omega
  obtain ⟨p3, hp3⟩ : ∃ p, p2 ++ (⟨#[32]⟩ : ByteArray) = p := ⟨_, rfl⟩
  have hn3 : ¬ 9223372036854775807 < p2.size + 1 := by omega
  have z3 : p3.size ≤ 27 := by rw [← hp3, ByteArray.size_append]; omega
  obtain ⟨p4, hp4⟩ : ∃ p, p3 ++ N = p := ⟨_, rfl⟩
  have hn4 : ¬ 9223372036854775807 < p3.size + N.size := by omega
  have z4 : p4.size ≤ 99 := by rw [← hp4, ByteArray.size_append]; omega
  obtain ⟨p5, hp5⟩ : ∃ p, p4 ++ (⟨#[32]⟩ : ByteArray) = p := ⟨_, rfl⟩
  have hn5 : ¬ 9223372036854775807 < p4.size + 1 := by omega
  have z5 : p5.size ≤ 100 := by rw [← hp5, ByteArray.size_append]; omega
  obtain ⟨p6, hp6⟩ : ∃ p, p5 ++ Af = p := ⟨_, rfl⟩
  have hn6 : ¬ 9223372036854775807 < p5.size + Af.size := by omega
  have z6 : p6.size ≤ 124 := by rw [← hp6, ByteArray.size_append]; omega
  obtain ⟨p7, hp7⟩ : ∃ p, p6 ++ (⟨#[32]⟩ : ByteArray) = p := ⟨_, rfl⟩
  have hn7 : ¬ 9223372036854775807 < p6.size + 1 := by omega
  have z7 : p7.size ≤ 125 := by rw [← hp7, ByteArray.size_append]; omega
  obtain ⟨p8, hp8⟩ : ∃ p, p7 ++ X = p := ⟨_, rfl⟩
  have hn8 : ¬ 9223372036854775807 < p7.size + X.size := by omega
  have z8 : p8.size ≤ 2825 := by rw [← hp8, ByteArray.size_append]; omega
  have HTT : Hid (p8 = T) := Lib.hid (by
    rw [← hT, ← hp8, ← hp7, ← hp6, ← hp5, ← hp4, ← hp3, ← hp2, ← hp1, ← hU, ← hDp, ← hN, ← hAf, ← hX, show (⟨#[32]⟩ : ByteArray) = bts [32] from rfl, bts_append, bts_append, bts_append, bts_append, bts_append, bts_append, bts_append, bts_append]
    unfold Jb.text
    simp)
  have HAT : Hid ((l = [] → Af = ⟨#[45]⟩) ∧ (l ≠ [] → bts (Nt.joinC (l.map Nt.decI)) = Af ∧ Nt.joinC (l.map Nt.decI) ≠ [])) := Lib.hid ⟨fun h => by rw [← hAf, h]; rfl, fun h => ⟨by rw [← hAf]; unfold aftT; rw [if_neg h], fun e => by
    cases l with
    | nil => exact h rfl
    | cons m l =>
      cases l with
      | nil => simp [Nt.joinC, decI_ne] at e
      | cons m2 l => simp [Nt.joinC] at e⟩⟩
  have HN := Lib.hid hn
  have HBD := Lib.hid hgb
  have h8 : n ≤ 8 := by omega
  have HR0 : Hid (⟨#[]⟩ = bts (Nt.joinC ((l.take 0).map Nt.decI))) := Lib.hid rfl
  have HLEN : Hid (∀ k, k ≤ n → (bts (Nt.joinC ((l.take k).map Nt.decI))).size ≤ 24) := Lib.hid (fun k hk => by
    rw [bts_size]
    have h1 := joinC_len (m := 2) ((l.take k).map Nt.decI) (decs_len (l.take k) (fun m hm => hgb m (List.mem_of_mem_take hm)))
    rw [List.length_map, List.length_take] at h1
    omega)
  rw [hT]
  clear hp hf hU hn g1 g2 g3 g4 g5 g6 s1 s2 s3 s4 s5 hgb hN hX hDp hAf hT hb0 n1 n2 n3
  go_enter Tryz.func10, Tryz.ntmps10
  go_upto_region 1 with fail
  rw [← hW0, ← hB]
  clear hW0 hB
  go_wp2_with fail
  go_loopg [3, 9] n (fun g y z wr => ∃ (k : Nat) (S : ByteArray), k + g = n ∧ y = .string S ∧ z = .int .i64 (k : Int) ∧ Hid (S = bts (Nt.joinC ((l.take k).map Nt.decI))) ∧ Hid (Below W0.heap.size W0 wr))
  case atStart => exact ⟨0, ⟨#[]⟩, by omega, rfl, rfl, HR0, Lib.hid (Below.refl _ _)⟩
  case round =>
    obtain ⟨k, S, hk, rfl, rfl, HS, HW⟩ := hrel
    have HK := Lib.hid hk
    have d0 := (HW.out.cell (p := ⟨B, 0, none⟩) hBl).trans b0
    have d1 := (HW.out.cell (p := ⟨B, 1, none⟩) hBl).trans b1
    have d2 := (HW.out.cell (p := ⟨B, 2, none⟩) hBl).trans b2
    have d3 := (HW.out.cell (p := ⟨B, 3, none⟩) hBl).trans b3
    have d4 := (HW.out.cell (p := ⟨B, 4, none⟩) hBl).trans b4
    have d5 := (HW.out.cell (p := ⟨B, 5, none⟩) hBl).trans b5
    have d6 := (HW.out.cell (p := ⟨B, 6, none⟩) hBl).trans b6
    have d7 := (HW.out.cell (p := ⟨B, 7, none⟩) hBl).trans b7
    have d8 := (HW.out.cell (p := ⟨B, 8, none⟩) hBl).trans b8
    have d9 := (HW.out.cell (p := ⟨B, 9, none⟩) hBl).trans b9
    have d10 := (HW.out.cell (p := ⟨B, 10, none⟩) hBl).trans b10
    have hdl := Nat.lt_of_lt_of_le hBl HW.out.size
    have hBw := HB0.out.trans (HW.out.mono HB0.out.size)
    have HBW := Lib.hid hBw
    have hSz : S.size ≤ 24 := by rw [HS.out]; exact HLEN.out k (by omega)
    by_cases hkn : k < n
    · obtain ⟨m, hm⟩ : ∃ m, l[k]? = some m := ⟨_, List.getElem?_eq_getElem (by rw [HN.out]; exact hkn)⟩
      obtain ⟨bb, off, rfl, hbl, hcells⟩ := aft_cell (HVV.out wr hBw) hm
      have hcell := hcells k m hm
      have hk1 : (0 : Int) ≤ (k : Int) := by omega
      have hk2 : (k : Int) < (n : Int) := by omega
      have hbm := HBD.out m (List.mem_of_getElem? hm)
      have HDM := Lib.hid (HDC.out m wr (by omega) (by omega))
      obtain ⟨Dm, hDm⟩ : ∃ N, bts (Nt.decI m) = N := ⟨_, rfl⟩
      rw [hDm] at HDM
      have zD : Dm.size ≤ 5 := by rw [← hDm, bts_size]; exact decI_len (by omega) (by omega)
      have HNEW : Hid (bts (Nt.joinC ((l.take (k + 1)).map Nt.decI)) = if k = 0 then S ++ Dm else S ++ (⟨#[44]⟩ : ByteArray) ++ Dm) := Lib.hid (by
        rw [take_snoc hm, List.map_append, List.map_cons, List.map_nil, joinC_snoc, HS.out, ← hDm]
        by_cases h0 : k = 0
        · subst h0
          rw [if_pos rfl, if_pos (by simp)]
          simp [Nt.joinC, bts_append]
        · rw [if_neg h0, if_neg (by
            intro e
            have := congrArg List.length e
            rw [List.length_map, List.length_take, List.length_nil] at this
            have h2 := HN.out
            omega), show (⟨#[44]⟩ : ByteArray) = bts [44] from rfl, bts_append, bts_append]
          simp)
      have e44 : (⟨#[44]⟩ : ByteArray).size = 1 := rfl
      obtain ⟨q1, hq1⟩ : ∃ p, S ++ (⟨#[44]⟩ : ByteArray) = p := ⟨_, rfl⟩
      have hz1 : q1.size ≤ 25 := by rw [← hq1, ByteArray.size_append]; omega
      have hm1 : ¬ 9223372036854775807 < S.size + 1 := by omega
      have hm2 : ¬ 9223372036854775807 < q1.size + Dm.size := by omega
      have hm3 : ¬ 9223372036854775807 < S.size + Dm.size := by omega
      clear hm hk hcells hbm hDm
      by_cases h0 : k = 0
      · subst h0
        rw [if_pos rfl] at HNEW
        rw [Nat.add_zero] at hcell
        go_wp2_with fail
        refine Calls.mono HDM.out ?_
        rintro e w1 ⟨rfl, hb1⟩
        have HB1 := Lib.hid (HW.out.trans (hb1.mono HW.out.size))
        clear hb1
        go_wp2_with fail
        go_roundg (n - (0 + 1))
        case measure => (have := HK.out; omega)
        case rel => exact ⟨0 + 1, S ++ Dm, by have := HK.out; omega, rfl, by simp, Lib.hid HNEW.out.symm, HB1⟩
      · have hk0 : (0 : Int) < (k : Int) := by omega
        rw [if_neg h0, hq1] at HNEW
        clear h0
        go_wp2_with fail
        refine Calls.mono HDM.out ?_
        rintro e w1 ⟨rfl, hb1⟩
        have HB1 := Lib.hid (HW.out.trans (hb1.mono HW.out.size))
        clear hb1
        go_wp2_with fail
        go_roundg (n - (k + 1))
        case measure => (have := HK.out; omega)
        case rel => exact ⟨k + 1, q1 ++ Dm, by have := HK.out; omega, rfl, by simp, Lib.hid HNEW.out.symm, HB1⟩
    · have hk2 : ¬ (k : Int) < (n : Int) := by omega
      have HFULL : Hid (S = bts (Nt.joinC (l.map Nt.decI))) := Lib.hid (by rw [HS.out, List.take_of_length_le (by have := HN.out; have := HK.out; omega)])
      have HPICK : Hid ((S.toList = [] ∧ Af = ⟨#[45]⟩) ∨ (S.toList ≠ [] ∧ S = Af)) := Lib.hid (by
        by_cases hl : l = []
        · left
          exact ⟨by rw [HFULL.out, hl, bts_toList]; rfl, HAT.out.1 hl⟩
        · right
          obtain ⟨f1, f2⟩ := HAT.out.2 hl
          exact ⟨by rw [HFULL.out, bts_toList]; exact f2, by rw [HFULL.out]; exact f1⟩)
      clear hk hkn
      rcases HPICK.out with ⟨hS1, hAf⟩ | ⟨hS1, rfl⟩
      · have hS2 : (S.toList == []) = true := by rw [hS1]; rfl
        subst hAf
        have hn6' : ¬ 9223372036854775807 < p5.size + 1 := by omega
        go_upto_region 11 with fail
        refine wp_region_held_drew (S := fun W => Below wr.heap.size wr W) (by kernel_rfl) ((Below.refl _ _).drew) (fun hHeld => ?_)
        refine wpAnyH_take (i := 0) (v := ?vb2b0x1) rfl (by kernel_rfl) (by kernel_rfl) (by kernel_rfl) (fun _ _ _ h => h) (Or.inl ⟨by rfl, ?hyb2b0x1⟩) (by assumption) ?restb2b0x1
        case hyb2b0x1 =>
          intro w hSw
          (try dsimp only at hSw)
          go_simp
          (try with_reducible rfl)
        change wpAnyH _ _ _ _ _ _ _ (Act.put _ (some 25) _) _
        try simp only [Act.put, List.setIfInBounds_toArray, List.set_cons_zero, List.set_cons_succ]
        refine wpAnyH_take (i := 1) (v := ?vb2b1x2) rfl (by kernel_rfl) (by kernel_rfl) (by kernel_rfl) (fun _ _ _ h => h) (Or.inl ⟨by rfl, ?hyb2b1x2⟩) (by assumption) ?restb2b1x2
        case hyb2b1x2 =>
          intro w hSw
          (try dsimp only at hSw)
          have d0 := (hSw.cell (p := ⟨B, 0, none⟩) hdl).trans d0
          have d1 := (hSw.cell (p := ⟨B, 1, none⟩) hdl).trans d1
          have d2 := (hSw.cell (p := ⟨B, 2, none⟩) hdl).trans d2
          have d3 := (hSw.cell (p := ⟨B, 3, none⟩) hdl).trans d3
          have d4 := (hSw.cell (p := ⟨B, 4, none⟩) hdl).trans d4
          have d5 := (hSw.cell (p := ⟨B, 5, none⟩) hdl).trans d5
          have d6 := (hSw.cell (p := ⟨B, 6, none⟩) hdl).trans d6
          have d7 := (hSw.cell (p := ⟨B, 7, none⟩) hdl).trans d7
          have d8 := (hSw.cell (p := ⟨B, 8, none⟩) hdl).trans d8
          have d9 := (hSw.cell (p := ⟨B, 9, none⟩) hdl).trans d9
          have d10 := (hSw.cell (p := ⟨B, 10, none⟩) hdl).trans d10
          go_simp
          (try with_reducible rfl)
        change wpAnyH _ _ _ _ _ _ _ (Act.put _ (some 26) _) _
        try simp only [Act.put, List.setIfInBounds_toArray, List.set_cons_zero, List.set_cons_succ]
        refine wpAnyH_take (i := 2) (v := ?vb2b2x3) rfl (by kernel_rfl) (by kernel_rfl) (by kernel_rfl) (fun _ _ _ h => h) (Or.inl ⟨by rfl, ?hyb2b2x3⟩) (by assumption) ?restb2b2x3
        case hyb2b2x3 =>
          intro w hSw
          (try dsimp only at hSw)
          go_simp
          (try with_reducible rfl)
        change wpAnyH _ _ _ _ _ _ _ (Act.put _ (some 27) _) _
        try simp only [Act.put, List.setIfInBounds_toArray, List.set_cons_zero, List.set_cons_succ]
        refine wpAnyH_take (i := 3) (v := ?vb2b3x4) rfl (by kernel_rfl) (by kernel_rfl) (by kernel_rfl) (fun _ _ _ h => h) (Or.inl ⟨by rfl, ?hyb2b3x4⟩) (by assumption) ?restb2b3x4
        case hyb2b3x4 =>
          intro w hSw
          (try dsimp only at hSw)
          go_simp
          (try with_reducible rfl)
        change wpAnyH _ _ _ _ _ _ _ (Act.put _ (some 28) _) _
        try simp only [Act.put, List.setIfInBounds_toArray, List.set_cons_zero, List.set_cons_succ]
        refine wpAnyH_take (i := 4) (v := ?vb2b4x5) rfl (by kernel_rfl) (by kernel_rfl) (by kernel_rfl) (fun _ _ _ h => h) (Or.inl ⟨by rfl, ?hyb2b4x5⟩) (by assumption) ?restb2b4x5
        case hyb2b4x5 =>
          intro w hSw
          (try dsimp only at hSw)
          have d0 := (hSw.cell (p := ⟨B, 0, none⟩) hdl).trans d0
          have d1 := (hSw.cell (p := ⟨B, 1, none⟩) hdl).trans d1
          have d2 := (hSw.cell (p := ⟨B, 2, none⟩) hdl).trans d2
          have d3 := (hSw.cell (p := ⟨B, 3, none⟩) hdl).trans d3
          have d4 := (hSw.cell (p := ⟨B, 4, none⟩) hdl).trans d4
          have d5 := (hSw.cell (p := ⟨B, 5, none⟩) hdl).trans d5
          have d6 := (hSw.cell (p := ⟨B, 6, none⟩) hdl).trans d6
          have d7 := (hSw.cell (p := ⟨B, 7, none⟩) hdl).trans d7
          have d8 := (hSw.cell (p := ⟨B, 8, none⟩) hdl).trans d8
          have d9 := (hSw.cell (p := ⟨B, 9, none⟩) hdl).trans d9
          have d10 := (hSw.cell (p := ⟨B, 10, none⟩) hdl).trans d10
          go_simp
          (try with_reducible rfl)
        change wpAnyH _ _ _ _ _ _ _ (Act.put _ (some 29) _) _
        try simp only [Act.put, List.setIfInBounds_toArray, List.set_cons_zero, List.set_cons_succ]
        refine wpAnyH_take (i := 8) (v := ?vb2b8x6) rfl (by kernel_rfl) (by kernel_rfl) (by kernel_rfl) (fun _ _ _ h => h) (Or.inl ⟨by rfl, ?hyb2b8x6⟩) (by assumption) ?restb2b8x6
        case hyb2b8x6 =>
          intro w hSw
          (try dsimp only at hSw)
          go_simp
          (try with_reducible rfl)
        change wpAnyH _ _ _ _ _ _ _ (Act.put _ (some 33) _) _
        try simp only [Act.put, List.setIfInBounds_toArray, List.set_cons_zero, List.set_cons_succ]
        refine wpAnyH_take (i := 9) (v := ?vb2b9x7) rfl (by kernel_rfl) (by kernel_rfl) (by kernel_rfl) (fun _ _ _ h => h) (Or.inl ⟨by rfl, ?hyb2b9x7⟩) (by assumption) ?restb2b9x7
        case hyb2b9x7 =>
          intro w hSw
          (try dsimp only at hSw)
          have d0 := (hSw.cell (p := ⟨B, 0, none⟩) hdl).trans d0
          have d1 := (hSw.cell (p := ⟨B, 1, none⟩) hdl).trans d1
          have d2 := (hSw.cell (p := ⟨B, 2, none⟩) hdl).trans d2
          have d3 := (hSw.cell (p := ⟨B, 3, none⟩) hdl).trans d3
          have d4 := (hSw.cell (p := ⟨B, 4, none⟩) hdl).trans d4
          have d5 := (hSw.cell (p := ⟨B, 5, none⟩) hdl).trans d5
          have d6 := (hSw.cell (p := ⟨B, 6, none⟩) hdl).trans d6
          have d7 := (hSw.cell (p := ⟨B, 7, none⟩) hdl).trans d7
          have d8 := (hSw.cell (p := ⟨B, 8, none⟩) hdl).trans d8
          have d9 := (hSw.cell (p := ⟨B, 9, none⟩) hdl).trans d9
          have d10 := (hSw.cell (p := ⟨B, 10, none⟩) hdl).trans d10
          go_simp
          (try with_reducible rfl)
        change wpAnyH _ _ _ _ _ _ _ (Act.put _ (some 34) _) _
        try simp only [Act.put, List.setIfInBounds_toArray, List.set_cons_zero, List.set_cons_succ]
        refine wpAnyH_take (i := 13) (v := ?vb2b13x8) rfl (by kernel_rfl) (by kernel_rfl) (by kernel_rfl) (fun _ _ _ h => h) (Or.inl ⟨by rfl, ?hyb2b13x8⟩) (by assumption) ?restb2b13x8
        case hyb2b13x8 =>
          intro w hSw
          (try dsimp only at hSw)
          go_simp
          (try with_reducible rfl)
        change wpAnyH _ _ _ _ _ _ _ (Act.put _ (some 38) _) _
        try simp only [Act.put, List.setIfInBounds_toArray, List.set_cons_zero, List.set_cons_succ]
        refine wpAnyH_take (i := 16) (v := ?vb2b16x9) rfl (by kernel_rfl) (by kernel_rfl) (by kernel_rfl) (fun _ _ _ h => h) (Or.inl ⟨by rfl, ?hyb2b16x9⟩) (by assumption) ?restb2b16x9
        case hyb2b16x9 =>
          intro w hSw
          (try dsimp only at hSw)
          go_simp
          (try with_reducible rfl)
        change wpAnyH _ _ _ _ _ _ _ (Act.put _ (some 41) _) _
        try simp only [Act.put, List.setIfInBounds_toArray, List.set_cons_zero, List.set_cons_succ]
        refine wpAnyH_take (i := 17) (v := ?vb2b17x10) rfl (by kernel_rfl) (by kernel_rfl) (by kernel_rfl) (fun _ _ _ h => h) (Or.inl ⟨by rfl, ?hyb2b17x10⟩) (by assumption) ?restb2b17x10
        case hyb2b17x10 =>
          intro w hSw
          (try dsimp only at hSw)
          have d0 := (hSw.cell (p := ⟨B, 0, none⟩) hdl).trans d0
          have d1 := (hSw.cell (p := ⟨B, 1, none⟩) hdl).trans d1
          have d2 := (hSw.cell (p := ⟨B, 2, none⟩) hdl).trans d2
          have d3 := (hSw.cell (p := ⟨B, 3, none⟩) hdl).trans d3
          have d4 := (hSw.cell (p := ⟨B, 4, none⟩) hdl).trans d4
          have d5 := (hSw.cell (p := ⟨B, 5, none⟩) hdl).trans d5
          have d6 := (hSw.cell (p := ⟨B, 6, none⟩) hdl).trans d6
          have d7 := (hSw.cell (p := ⟨B, 7, none⟩) hdl).trans d7
          have d8 := (hSw.cell (p := ⟨B, 8, none⟩) hdl).trans d8
          have d9 := (hSw.cell (p := ⟨B, 9, none⟩) hdl).trans d9
          have d10 := (hSw.cell (p := ⟨B, 10, none⟩) hdl).trans d10
          go_simp
          (try with_reducible rfl)
        change wpAnyH _ _ _ _ _ _ _ (Act.put _ (some 42) _) _
        try simp only [Act.put, List.setIfInBounds_toArray, List.set_cons_zero, List.set_cons_succ]
        refine wpAnyH_ready (rs := [5]) (by kernel_rfl) (by simp) ?_
        refine AllReadyH.cons rfl (fun K hK => ?_) AllReadyH.nil
        go_simp
        go_at_call 41
        refine Calls.mono (HDP.out _) ?_
        rintro e w1 ⟨rfl, hb1⟩
        (try go_wp2_with fail)
        refine hK.out _ _ (hHeld.trans (hb1.mono hHeld.size)) (fun hHeld => ?_)
        clear hK K
        try simp only [Act.put, List.setIfInBounds_toArray, List.set_cons_zero, List.set_cons_succ]
        refine wpAnyH_take (i := 6) (v := ?vb2b6x11) rfl (by kernel_rfl) (by kernel_rfl) (by kernel_rfl) (fun _ _ _ h => h) (Or.inl ⟨by rfl, ?hyb2b6x11⟩) (by assumption) ?restb2b6x11
        case hyb2b6x11 =>
          intro w hSw
          (try dsimp only at hSw)
          go_simp
          (try with_reducible rfl)
        change wpAnyH _ _ _ _ _ _ _ (Act.put _ (some 31) _) _
        try simp only [Act.put, List.setIfInBounds_toArray, List.set_cons_zero, List.set_cons_succ]
        refine wpAnyH_take (i := 7) (v := ?vb2b7x12) rfl (by kernel_rfl) (by kernel_rfl) (by kernel_rfl) (fun _ _ _ h => h) (Or.inl ⟨by rfl, ?hyb2b7x12⟩) (by assumption) ?restb2b7x12
        case hyb2b7x12 =>
          intro w hSw
          (try dsimp only at hSw)
          go_simp
          (try with_reducible rfl)
        change wpAnyH _ _ _ _ _ _ _ (Act.put _ (some 32) _) _
        try simp only [Act.put, List.setIfInBounds_toArray, List.set_cons_zero, List.set_cons_succ]
        refine wpAnyH_ready (rs := [10]) (by kernel_rfl) (by simp) ?_
        refine AllReadyH.cons rfl (fun K hK => ?_) AllReadyH.nil
        go_simp
        go_at_call 42
        refine Calls.mono (HND.out _) ?_
        rintro e w2 ⟨rfl, hb2⟩
        (try go_wp2_with fail)
        refine hK.out _ _ (hHeld.trans (hb2.mono hHeld.size)) (fun hHeld => ?_)
        clear hK K
        try simp only [Act.put, List.setIfInBounds_toArray, List.set_cons_zero, List.set_cons_succ]
        refine wpAnyH_take (i := 11) (v := ?vb2b11x13) rfl (by kernel_rfl) (by kernel_rfl) (by kernel_rfl) (fun _ _ _ h => h) (Or.inl ⟨by rfl, ?hyb2b11x13⟩) (by assumption) ?restb2b11x13
        case hyb2b11x13 =>
          intro w hSw
          (try dsimp only at hSw)
          go_simp
          (try with_reducible rfl)
        change wpAnyH _ _ _ _ _ _ _ (Act.put _ (some 36) _) _
        try simp only [Act.put, List.setIfInBounds_toArray, List.set_cons_zero, List.set_cons_succ]
        refine wpAnyH_take (i := 12) (v := ?vb2b12x14) rfl (by kernel_rfl) (by kernel_rfl) (by kernel_rfl) (fun _ _ _ h => h) (Or.inl ⟨by rfl, ?hyb2b12x14⟩) (by assumption) ?restb2b12x14
        case hyb2b12x14 =>
          intro w hSw
          (try dsimp only at hSw)
          go_simp
          (try with_reducible rfl)
        change wpAnyH _ _ _ _ _ _ _ (Act.put _ (some 37) _) _
        try simp only [Act.put, List.setIfInBounds_toArray, List.set_cons_zero, List.set_cons_succ]
        refine wpAnyH_take (i := 14) (v := ?vb2b14x15) rfl (by kernel_rfl) (by kernel_rfl) (by kernel_rfl) (fun _ _ _ h => h) (Or.inl ⟨by rfl, ?hyb2b14x15⟩) (by assumption) ?restb2b14x15
        case hyb2b14x15 =>
          intro w hSw
          (try dsimp only at hSw)
          go_simp
          (try with_reducible rfl)
        change wpAnyH _ _ _ _ _ _ _ (Act.put _ (some 39) _) _
        try simp only [Act.put, List.setIfInBounds_toArray, List.set_cons_zero, List.set_cons_succ]
        refine wpAnyH_take (i := 15) (v := ?vb2b15x16) rfl (by kernel_rfl) (by kernel_rfl) (by kernel_rfl) (fun _ _ _ h => h) (Or.inl ⟨by rfl, ?hyb2b15x16⟩) (by assumption) ?restb2b15x16
        case hyb2b15x16 =>
          intro w hSw
          (try dsimp only at hSw)
          go_simp
          (try with_reducible rfl)
        change wpAnyH _ _ _ _ _ _ _ (Act.put _ (some 40) _) _
        try simp only [Act.put, List.setIfInBounds_toArray, List.set_cons_zero, List.set_cons_succ]
        refine wpAnyH_ready (rs := [18]) (by kernel_rfl) (by simp) ?_
        refine AllReadyH.cons rfl (fun K hK => ?_) AllReadyH.nil
        go_simp
        go_at_call 43
        refine Calls.mono (HAX.out _ (HBW.out.trans (hHeld.mono HBW.out.size))) ?_
        rintro e w3 ⟨rfl, hb3⟩
        (try go_wp2_with fail)
        refine hK.out _ _ (hHeld.trans (hb3.mono hHeld.size)) (fun hHeld => ?_)
        clear hK K
        try simp only [Act.put, List.setIfInBounds_toArray, List.set_cons_zero, List.set_cons_succ]
        refine wpAnyH_take (i := 19) (v := ?vb2b19x17) rfl (by kernel_rfl) (by kernel_rfl) (by kernel_rfl) (fun _ _ _ h => h) (Or.inl ⟨by rfl, ?hyb2b19x17⟩) (by assumption) ?restb2b19x17
        case hyb2b19x17 =>
          intro w hSw
          (try dsimp only at hSw)
          go_simp
          (try with_reducible rfl)
        change wpAnyH _ _ _ _ _ _ _ (Act.put _ (some 44) _) _
        try simp only [Act.put, List.setIfInBounds_toArray, List.set_cons_zero, List.set_cons_succ]
        refine wpAnyH_take (i := 20) (v := ?vb2b20x18) rfl (by kernel_rfl) (by kernel_rfl) (by kernel_rfl) (fun _ _ _ h => h) (Or.inl ⟨by rfl, ?hyb2b20x18⟩) (by assumption) ?restb2b20x18
        case hyb2b20x18 =>
          intro w hSw
          (try dsimp only at hSw)
          go_simp
          (try with_reducible rfl)
        change wpAnyH _ _ _ _ _ _ _ (Act.put _ (some 2) _) _
        try simp only [Act.put, List.setIfInBounds_toArray, List.set_cons_zero, List.set_cons_succ]
        refine wpAnyH_done (by kernel_rfl) ?_ _
        go_wp2_with fail
        go_ret
        exact ⟨by rw [← HTT.out]; rfl, HBW.out.trans (hHeld.mono HBW.out.size)⟩
      · have hS2 : (S.toList == []) = false := by simpa using hS1
        go_upto_region 11 with fail
        refine wp_region_held_drew (S := fun W => Below wr.heap.size wr W) (by kernel_rfl) ((Below.refl _ _).drew) (fun hHeld => ?_)
        refine wpAnyH_take (i := 0) (v := ?vb2b0x19) rfl (by kernel_rfl) (by kernel_rfl) (by kernel_rfl) (fun _ _ _ h => h) (Or.inl ⟨by rfl, ?hyb2b0x19⟩) (by assumption) ?restb2b0x19
        case hyb2b0x19 =>
          intro w hSw
          (try dsimp only at hSw)
          go_simp
          (try with_reducible rfl)
        change wpAnyH _ _ _ _ _ _ _ (Act.put _ (some 25) _) _
        try simp only [Act.put, List.setIfInBounds_toArray, List.set_cons_zero, List.set_cons_succ]
        refine wpAnyH_take (i := 1) (v := ?vb2b1x20) rfl (by kernel_rfl) (by kernel_rfl) (by kernel_rfl) (fun _ _ _ h => h) (Or.inl ⟨by rfl, ?hyb2b1x20⟩) (by assumption) ?restb2b1x20
        case hyb2b1x20 =>
          intro w hSw
          (try dsimp only at hSw)
          have d0 := (hSw.cell (p := ⟨B, 0, none⟩) hdl).trans d0
          have d1 := (hSw.cell (p := ⟨B, 1, none⟩) hdl).trans d1
          have d2 := (hSw.cell (p := ⟨B, 2, none⟩) hdl).trans d2
          have d3 := (hSw.cell (p := ⟨B, 3, none⟩) hdl).trans d3
          have d4 := (hSw.cell (p := ⟨B, 4, none⟩) hdl).trans d4
          have d5 := (hSw.cell (p := ⟨B, 5, none⟩) hdl).trans d5
          have d6 := (hSw.cell (p := ⟨B, 6, none⟩) hdl).trans d6
          have d7 := (hSw.cell (p := ⟨B, 7, none⟩) hdl).trans d7
          have d8 := (hSw.cell (p := ⟨B, 8, none⟩) hdl).trans d8
          have d9 := (hSw.cell (p := ⟨B, 9, none⟩) hdl).trans d9
          have d10 := (hSw.cell (p := ⟨B, 10, none⟩) hdl).trans d10
          go_simp
          (try with_reducible rfl)
        change wpAnyH _ _ _ _ _ _ _ (Act.put _ (some 26) _) _
        try simp only [Act.put, List.setIfInBounds_toArray, List.set_cons_zero, List.set_cons_succ]
        refine wpAnyH_take (i := 2) (v := ?vb2b2x21) rfl (by kernel_rfl) (by kernel_rfl) (by kernel_rfl) (fun _ _ _ h => h) (Or.inl ⟨by rfl, ?hyb2b2x21⟩) (by assumption) ?restb2b2x21
        case hyb2b2x21 =>
          intro w hSw
          (try dsimp only at hSw)
          go_simp
          (try with_reducible rfl)
        change wpAnyH _ _ _ _ _ _ _ (Act.put _ (some 27) _) _
        try simp only [Act.put, List.setIfInBounds_toArray, List.set_cons_zero, List.set_cons_succ]
        refine wpAnyH_take (i := 3) (v := ?vb2b3x22) rfl (by kernel_rfl) (by kernel_rfl) (by kernel_rfl) (fun _ _ _ h => h) (Or.inl ⟨by rfl, ?hyb2b3x22⟩) (by assumption) ?restb2b3x22
        case hyb2b3x22 =>
          intro w hSw
          (try dsimp only at hSw)
          go_simp
          (try with_reducible rfl)
        change wpAnyH _ _ _ _ _ _ _ (Act.put _ (some 28) _) _
        try simp only [Act.put, List.setIfInBounds_toArray, List.set_cons_zero, List.set_cons_succ]
        refine wpAnyH_take (i := 4) (v := ?vb2b4x23) rfl (by kernel_rfl) (by kernel_rfl) (by kernel_rfl) (fun _ _ _ h => h) (Or.inl ⟨by rfl, ?hyb2b4x23⟩) (by assumption) ?restb2b4x23
        case hyb2b4x23 =>
          intro w hSw
          (try dsimp only at hSw)
          have d0 := (hSw.cell (p := ⟨B, 0, none⟩) hdl).trans d0
          have d1 := (hSw.cell (p := ⟨B, 1, none⟩) hdl).trans d1
          have d2 := (hSw.cell (p := ⟨B, 2, none⟩) hdl).trans d2
          have d3 := (hSw.cell (p := ⟨B, 3, none⟩) hdl).trans d3
          have d4 := (hSw.cell (p := ⟨B, 4, none⟩) hdl).trans d4
          have d5 := (hSw.cell (p := ⟨B, 5, none⟩) hdl).trans d5
          have d6 := (hSw.cell (p := ⟨B, 6, none⟩) hdl).trans d6
          have d7 := (hSw.cell (p := ⟨B, 7, none⟩) hdl).trans d7
          have d8 := (hSw.cell (p := ⟨B, 8, none⟩) hdl).trans d8
          have d9 := (hSw.cell (p := ⟨B, 9, none⟩) hdl).trans d9
          have d10 := (hSw.cell (p := ⟨B, 10, none⟩) hdl).trans d10
          go_simp
          (try with_reducible rfl)
        change wpAnyH _ _ _ _ _ _ _ (Act.put _ (some 29) _) _
        try simp only [Act.put, List.setIfInBounds_toArray, List.set_cons_zero, List.set_cons_succ]
        refine wpAnyH_take (i := 8) (v := ?vb2b8x24) rfl (by kernel_rfl) (by kernel_rfl) (by kernel_rfl) (fun _ _ _ h => h) (Or.inl ⟨by rfl, ?hyb2b8x24⟩) (by assumption) ?restb2b8x24
        case hyb2b8x24 =>
          intro w hSw
          (try dsimp only at hSw)
          go_simp
          (try with_reducible rfl)
        change wpAnyH _ _ _ _ _ _ _ (Act.put _ (some 33) _) _
        try simp only [Act.put, List.setIfInBounds_toArray, List.set_cons_zero, List.set_cons_succ]
        refine wpAnyH_take (i := 9) (v := ?vb2b9x25) rfl (by kernel_rfl) (by kernel_rfl) (by kernel_rfl) (fun _ _ _ h => h) (Or.inl ⟨by rfl, ?hyb2b9x25⟩) (by assumption) ?restb2b9x25
        case hyb2b9x25 =>
          intro w hSw
          (try dsimp only at hSw)
          have d0 := (hSw.cell (p := ⟨B, 0, none⟩) hdl).trans d0
          have d1 := (hSw.cell (p := ⟨B, 1, none⟩) hdl).trans d1
          have d2 := (hSw.cell (p := ⟨B, 2, none⟩) hdl).trans d2
          have d3 := (hSw.cell (p := ⟨B, 3, none⟩) hdl).trans d3
          have d4 := (hSw.cell (p := ⟨B, 4, none⟩) hdl).trans d4
          have d5 := (hSw.cell (p := ⟨B, 5, none⟩) hdl).trans d5
          have d6 := (hSw.cell (p := ⟨B, 6, none⟩) hdl).trans d6
          have d7 := (hSw.cell (p := ⟨B, 7, none⟩) hdl).trans d7
          have d8 := (hSw.cell (p := ⟨B, 8, none⟩) hdl).trans d8
          have d9 := (hSw.cell (p := ⟨B, 9, none⟩) hdl).trans d9
          have d10 := (hSw.cell (p := ⟨B, 10, none⟩) hdl).trans d10
          go_simp
          (try with_reducible rfl)
        change wpAnyH _ _ _ _ _ _ _ (Act.put _ (some 34) _) _
        try simp only [Act.put, List.setIfInBounds_toArray, List.set_cons_zero, List.set_cons_succ]
        refine wpAnyH_take (i := 13) (v := ?vb2b13x26) rfl (by kernel_rfl) (by kernel_rfl) (by kernel_rfl) (fun _ _ _ h => h) (Or.inl ⟨by rfl, ?hyb2b13x26⟩) (by assumption) ?restb2b13x26
        case hyb2b13x26 =>
          intro w hSw
          (try dsimp only at hSw)
          go_simp
          (try with_reducible rfl)
        change wpAnyH _ _ _ _ _ _ _ (Act.put _ (some 38) _) _
        try simp only [Act.put, List.setIfInBounds_toArray, List.set_cons_zero, List.set_cons_succ]
        refine wpAnyH_take (i := 16) (v := ?vb2b16x27) rfl (by kernel_rfl) (by kernel_rfl) (by kernel_rfl) (fun _ _ _ h => h) (Or.inl ⟨by rfl, ?hyb2b16x27⟩) (by assumption) ?restb2b16x27
        case hyb2b16x27 =>
          intro w hSw
          (try dsimp only at hSw)
          go_simp
          (try with_reducible rfl)
        change wpAnyH _ _ _ _ _ _ _ (Act.put _ (some 41) _) _
        try simp only [Act.put, List.setIfInBounds_toArray, List.set_cons_zero, List.set_cons_succ]
        refine wpAnyH_take (i := 17) (v := ?vb2b17x28) rfl (by kernel_rfl) (by kernel_rfl) (by kernel_rfl) (fun _ _ _ h => h) (Or.inl ⟨by rfl, ?hyb2b17x28⟩) (by assumption) ?restb2b17x28
        case hyb2b17x28 =>
          intro w hSw
          (try dsimp only at hSw)
          have d0 := (hSw.cell (p := ⟨B, 0, none⟩) hdl).trans d0
          have d1 := (hSw.cell (p := ⟨B, 1, none⟩) hdl).trans d1
          have d2 := (hSw.cell (p := ⟨B, 2, none⟩) hdl).trans d2
          have d3 := (hSw.cell (p := ⟨B, 3, none⟩) hdl).trans d3
          have d4 := (hSw.cell (p := ⟨B, 4, none⟩) hdl).trans d4
          have d5 := (hSw.cell (p := ⟨B, 5, none⟩) hdl).trans d5
          have d6 := (hSw.cell (p := ⟨B, 6, none⟩) hdl).trans d6
          have d7 := (hSw.cell (p := ⟨B, 7, none⟩) hdl).trans d7
          have d8 := (hSw.cell (p := ⟨B, 8, none⟩) hdl).trans d8
          have d9 := (hSw.cell (p := ⟨B, 9, none⟩) hdl).trans d9
          have d10 := (hSw.cell (p := ⟨B, 10, none⟩) hdl).trans d10
          go_simp
          (try with_reducible rfl)
        change wpAnyH _ _ _ _ _ _ _ (Act.put _ (some 42) _) _
        try simp only [Act.put, List.setIfInBounds_toArray, List.set_cons_zero, List.set_cons_succ]
        refine wpAnyH_ready (rs := [5]) (by kernel_rfl) (by simp) ?_
        refine AllReadyH.cons rfl (fun K hK => ?_) AllReadyH.nil
        go_simp
        go_at_call 41
        refine Calls.mono (HDP.out _) ?_
        rintro e w1 ⟨rfl, hb1⟩
        (try go_wp2_with fail)
        refine hK.out _ _ (hHeld.trans (hb1.mono hHeld.size)) (fun hHeld => ?_)
        clear hK K
        try simp only [Act.put, List.setIfInBounds_toArray, List.set_cons_zero, List.set_cons_succ]
        refine wpAnyH_take (i := 6) (v := ?vb2b6x29) rfl (by kernel_rfl) (by kernel_rfl) (by kernel_rfl) (fun _ _ _ h => h) (Or.inl ⟨by rfl, ?hyb2b6x29⟩) (by assumption) ?restb2b6x29
        case hyb2b6x29 =>
          intro w hSw
          (try dsimp only at hSw)
          go_simp
          (try with_reducible rfl)
        change wpAnyH _ _ _ _ _ _ _ (Act.put _ (some 31) _) _
        try simp only [Act.put, List.setIfInBounds_toArray, List.set_cons_zero, List.set_cons_succ]
        refine wpAnyH_take (i := 7) (v := ?vb2b7x30) rfl (by kernel_rfl) (by kernel_rfl) (by kernel_rfl) (fun _ _ _ h => h) (Or.inl ⟨by rfl, ?hyb2b7x30⟩) (by assumption) ?restb2b7x30
        case hyb2b7x30 =>
          intro w hSw
          (try dsimp only at hSw)
          go_simp
          (try with_reducible rfl)
        change wpAnyH _ _ _ _ _ _ _ (Act.put _ (some 32) _) _
        try simp only [Act.put, List.setIfInBounds_toArray, List.set_cons_zero, List.set_cons_succ]
        refine wpAnyH_ready (rs := [10]) (by kernel_rfl) (by simp) ?_
        refine AllReadyH.cons rfl (fun K hK => ?_) AllReadyH.nil
        go_simp
        go_at_call 42
        refine Calls.mono (HND.out _) ?_
        rintro e w2 ⟨rfl, hb2⟩
        (try go_wp2_with fail)
        refine hK.out _ _ (hHeld.trans (hb2.mono hHeld.size)) (fun hHeld => ?_)
        clear hK K
        try simp only [Act.put, List.setIfInBounds_toArray, List.set_cons_zero, List.set_cons_succ]
        refine wpAnyH_take (i := 11) (v := ?vb2b11x31) rfl (by kernel_rfl) (by kernel_rfl) (by kernel_rfl) (fun _ _ _ h => h) (Or.inl ⟨by rfl, ?hyb2b11x31⟩) (by assumption) ?restb2b11x31
        case hyb2b11x31 =>
          intro w hSw
          (try dsimp only at hSw)
          go_simp
          (try with_reducible rfl)
        change wpAnyH _ _ _ _ _ _ _ (Act.put _ (some 36) _) _
        try simp only [Act.put, List.setIfInBounds_toArray, List.set_cons_zero, List.set_cons_succ]
        refine wpAnyH_take (i := 12) (v := ?vb2b12x32) rfl (by kernel_rfl) (by kernel_rfl) (by kernel_rfl) (fun _ _ _ h => h) (Or.inl ⟨by rfl, ?hyb2b12x32⟩) (by assumption) ?restb2b12x32
        case hyb2b12x32 =>
          intro w hSw
          (try dsimp only at hSw)
          go_simp
          (try with_reducible rfl)
        change wpAnyH _ _ _ _ _ _ _ (Act.put _ (some 37) _) _
        try simp only [Act.put, List.setIfInBounds_toArray, List.set_cons_zero, List.set_cons_succ]
        refine wpAnyH_take (i := 14) (v := ?vb2b14x33) rfl (by kernel_rfl) (by kernel_rfl) (by kernel_rfl) (fun _ _ _ h => h) (Or.inl ⟨by rfl, ?hyb2b14x33⟩) (by assumption) ?restb2b14x33
        case hyb2b14x33 =>
          intro w hSw
          (try dsimp only at hSw)
          go_simp
          (try with_reducible rfl)
        change wpAnyH _ _ _ _ _ _ _ (Act.put _ (some 39) _) _
        try simp only [Act.put, List.setIfInBounds_toArray, List.set_cons_zero, List.set_cons_succ]
        refine wpAnyH_take (i := 15) (v := ?vb2b15x34) rfl (by kernel_rfl) (by kernel_rfl) (by kernel_rfl) (fun _ _ _ h => h) (Or.inl ⟨by rfl, ?hyb2b15x34⟩) (by assumption) ?restb2b15x34
        case hyb2b15x34 =>
          intro w hSw
          (try dsimp only at hSw)
          go_simp
          (try with_reducible rfl)
        change wpAnyH _ _ _ _ _ _ _ (Act.put _ (some 40) _) _
        try simp only [Act.put, List.setIfInBounds_toArray, List.set_cons_zero, List.set_cons_succ]
        refine wpAnyH_ready (rs := [18]) (by kernel_rfl) (by simp) ?_
        refine AllReadyH.cons rfl (fun K hK => ?_) AllReadyH.nil
        go_simp
        go_at_call 43
        refine Calls.mono (HAX.out _ (HBW.out.trans (hHeld.mono HBW.out.size))) ?_
        rintro e w3 ⟨rfl, hb3⟩
        (try go_wp2_with fail)
        refine hK.out _ _ (hHeld.trans (hb3.mono hHeld.size)) (fun hHeld => ?_)
        clear hK K
        try simp only [Act.put, List.setIfInBounds_toArray, List.set_cons_zero, List.set_cons_succ]
        refine wpAnyH_take (i := 19) (v := ?vb2b19x35) rfl (by kernel_rfl) (by kernel_rfl) (by kernel_rfl) (fun _ _ _ h => h) (Or.inl ⟨by rfl, ?hyb2b19x35⟩) (by assumption) ?restb2b19x35
        case hyb2b19x35 =>
          intro w hSw
          (try dsimp only at hSw)
          go_simp
          (try with_reducible rfl)
        change wpAnyH _ _ _ _ _ _ _ (Act.put _ (some 44) _) _
        try simp only [Act.put, List.setIfInBounds_toArray, List.set_cons_zero, List.set_cons_succ]
        refine wpAnyH_take (i := 20) (v := ?vb2b20x36) rfl (by kernel_rfl) (by kernel_rfl) (by kernel_rfl) (fun _ _ _ h => h) (Or.inl ⟨by rfl, ?hyb2b20x36⟩) (by assumption) ?restb2b20x36
        case hyb2b20x36 =>
          intro w hSw
          (try dsimp only at hSw)
          go_simp
          (try with_reducible rfl)
        change wpAnyH _ _ _ _ _ _ _ (Act.put _ (some 2) _) _
        try simp only [Act.put, List.setIfInBounds_toArray, List.set_cons_zero, List.set_cons_succ]
        refine wpAnyH_done (by kernel_rfl) ?_ _
        go_wp2_with fail
        go_ret
        exact ⟨by rw [← HTT.out]; rfl, HBW.out.trans (hHeld.mono HBW.out.size)⟩
end Go.Proofs.YtkemlckmfgacdaaGreatDoor
/- A box of the call's own: its cells as a list; written cell by cell. -/
namespace Go.Proofs.YtkemlckmfgacdaaGreatDoor
open Go.ChangeShapes Go.WideShapes Go.ChangeAt Go.RowKit
set_option linter.unusedVariables false
/-- the cells of the block c -/
structure BoxV (c : Nat) (vs : List Value) (w : World) : Prop where
  lt : c < w.heap.size
  cell : ∀ i v, vs[i]? = some v → w.cell? ⟨c, i, none⟩ = some v
  fz : ∀ i, w.frozen? ⟨c, i, none⟩ = false
theorem cell_topV (W : World) (c : Array Value) (T : TypeId) (b i : Nat) (hb : b = W.heap.size) : (W.alloc (.cells c T)).cell? ⟨b, i, none⟩ = c[i]? := by
  subst hb
  simp
theorem frozen_topV (W : World) (c : Array Value) (T : TypeId) (b i : Nat) (hb : b = W.heap.size) : (W.alloc (.cells c T)).frozen? ⟨b, i, none⟩ = false := by
  subst hb
  have := heap_alloc_new W (.cells c T)
  unfold World.frozen?
  simp only [this]
  rfl
theorem BoxV.top {w : World} {t : TypeId} {c : Nat} (vs : List Value) (hc : c = w.heap.size) : BoxV c vs (w.alloc (.cells vs.toArray t)) :=
  ⟨by rw [hc]; simp, fun i v h => (cell_topV _ _ _ _ _ hc).trans (by simpa using h), fun i => frozen_topV _ _ _ _ _ hc⟩
theorem BoxV.below {c C : Nat} {vs : List Value} {w w' : World} (h : BoxV c vs w) (hb : Below C w w') (hC : c < C) : BoxV c vs w' :=
  ⟨Nat.lt_of_lt_of_le h.lt hb.size, fun i v hi => (hb.cell (p := ⟨c, i, none⟩) hC).trans (h.cell i v hi), fun i => (hb.frozen (p := ⟨c, i, none⟩) hC).trans (h.fz i)⟩
theorem BoxV.step {c : Nat} {vs : List Value} {w w' : World} (h : BoxV c vs w) (hb : Below w.heap.size w w') : BoxV c vs w' := h.below hb h.lt
theorem BoxV.other {c : Nat} {vs : List Value} {w : World} (h : BoxV c vs w) {a : Addr} (ha : a.block ≠ c) (u : Value) : BoxV c vs (w.setCell a u) :=
  ⟨by simpa using h.lt, fun i v hi => by rw [World.cell?_setCell_other _ _ _ _ (by intro e; exact ha (congrArg Addr.block e))]; exact h.cell i v hi, fun i => by rw [World.frozen?_setCell]; exact h.fz i⟩
theorem BoxV.set {c : Nat} {vs : List Value} {w : World} (h : BoxV c vs w) (i : Nat) (u : Value) : BoxV c (vs.set i u) (w.setCell ⟨c, i, none⟩ u) := by
  refine ⟨by simpa using h.lt, fun j v hj => ?_, fun j => by rw [World.frozen?_setCell]; exact h.fz j⟩
  by_cases e : j = i
  · subst e
    have hl : j < vs.length := by
      have := (List.getElem?_eq_some_iff.1 hj).1
      simpa using this
    rw [List.getElem?_set_self hl] at hj
    injection hj with hj
    subst hj
    exact World.cell?_setCell_same _ _ _ (h.cell j _ (List.getElem?_eq_getElem hl))
  · rw [List.getElem?_set_ne (fun e2 => e e2.symm)] at hj
    rw [World.cell?_setCell_other _ _ _ _ (by intro e2; exact e (congrArg Addr.off e2).symm)]
    exact h.cell j v hj
theorem BoxV.grown {c : Nat} {vs : List Value} {w w' : World} {row : Option Nat} (h : BoxV c vs w) (hg : w.grownBy w' row) (hr : some c ≠ row) : BoxV c vs w' := by
  have hbk := hg.block c h.lt hr
  exact ⟨Nat.lt_of_lt_of_le h.lt hg.size, fun i v hi => (World.cell?_of_block (a := ⟨c, i, none⟩) hbk).trans (h.cell i v hi), fun i => (World.frozen?_of_block (a := ⟨c, i, none⟩) hbk).trans (h.fz i)⟩
/-- cells of a block, written one after another -/
def puts (W : World) (c : Nat) : Nat → List Value → World
  | _, [] => W
  | i, v :: vs => puts (W.setCell ⟨c, i, none⟩ v) c (i + 1) vs
theorem puts_size (c : Nat) : ∀ (vs : List Value) (W : World) (i : Nat), (puts W c i vs).heap.size = W.heap.size
  | [], W, i => rfl
  | v :: vs, W, i => by rw [puts, puts_size c vs]; simp
theorem puts_heap (c : Nat) {b : Nat} (h : b ≠ c) : ∀ (vs : List Value) (W : World) (i : Nat), (puts W c i vs).heap[b]? = W.heap[b]?
  | [], W, i => rfl
  | v :: vs, W, i => by rw [puts, puts_heap c h vs, Below.heap_setCell _ _ _ _ h]
theorem puts_below {B : Nat} {w : World} (c : Nat) (hB : B ≤ c) : ∀ (vs : List Value) (W : World) (i : Nat), Below B w W → Below B w (puts W c i vs)
  | [], W, i, h => h
  | v :: vs, W, i, h => by rw [puts]; exact puts_below c hB vs _ _ (h.setCell (p := ⟨c, i, none⟩) hB v)
end Go.Proofs.YtkemlckmfgacdaaGreatDoor
/- Contract: the document's front: a text up to one of some signs. -/
namespace Go.Proofs.YtkemlckmfgacdaaGreatDoor
open Go.ChangeShapes Go.WideShapes Go.ChangeAt Go.RowKit
set_option linter.unusedVariables false
open Tp
/-- none of the signs stands ahead of place i -/
def NoSf (s : Bs) (i : Nat) : Prop := ∀ (j : Nat) (b : UInt8), j < i → s[j]? = some b → Ar.sgn b = false
theorem front_hit {s : Bs} {i : Nat} {b : UInt8} (h : NoSf s i) (hb : s[i]? = some b) (hs : Ar.sgn b = true) : Ar.word s = s.take i ∧ Ar.rest s = s.drop i := by
  have e : s = s.take i ++ s.drop i := (List.take_append_drop i s).symm
  have h1 : ∀ c, c ∈ s.take i → Ar.sgn c = false := fun c hc => by
    obtain ⟨j, hj, e2⟩ := List.mem_iff_getElem.1 hc
    have hj2 : j < i := by rw [List.length_take] at hj; omega
    refine h j c hj2 ?_
    rw [← e2, List.getElem_take]
    exact List.getElem?_eq_getElem _
  have h2 : Ar.Stop (s.drop i) := .inr ⟨b, s.drop (i + 1), drop_some hb, hs⟩
  have := Ar.word_stop h1 h2
  rwa [← e] at this
theorem front_none {s : Bs} (h : NoSf s s.length) : Ar.word s = s ∧ Ar.rest s = [] := by
  have h1 : ∀ c, c ∈ s → Ar.sgn c = false := fun c hc => by
    obtain ⟨j, hj, e2⟩ := List.mem_iff_getElem.1 hc
    exact h j c hj (by rw [← e2]; exact List.getElem?_eq_getElem _)
  have := Ar.word_stop h1 (.inl rfl : Ar.Stop [])
  rwa [List.append_nil] at this
theorem signs_at {k : Nat} {c : UInt8} (h : Ar.signs[k]? = some c) : Ar.sgn c = true := by
  rw [← Ar.sgn_signs, List.contains_iff_mem]
  exact List.mem_of_getElem? h
theorem signs_none {c : UInt8} (h : ∀ (k : Nat), k < 8 → Ar.signs[k]? ≠ some c) : Ar.sgn c = false := by
  rw [← Ar.sgn_signs]
  cases hc : Ar.signs.contains c with
  | false => rfl
  | true =>
    rw [List.contains_iff_mem] at hc
    obtain ⟨k, hk, e⟩ := List.mem_iff_getElem.1 hc
    exact absurd (by rw [← e]; exact List.getElem?_eq_getElem hk) (h k hk)
set_option maxRecDepth 100000 in
set_option maxHeartbeats 8000000 in
theorem front_any (s : Bs) (w : World) (hl : s.length ≤ 1099511627776) : Calls Tryz.prog 95 #[.string (bts s), .string (bts Ar.signs)] w fun e w' => e = .returned (.tuple #[.string (bts (Ar.word s)), .string (bts (Ar.rest s))]) ∧ Below w.heap.size w w' := by
  obtain ⟨S, hS⟩ : ∃ S, bts s = S := ⟨_, rfl⟩
  obtain ⟨G, hG⟩ : ∃ S, bts Ar.signs = S := ⟨_, rfl⟩
  obtain ⟨n, hn⟩ : ∃ n, S.size = n := ⟨_, rfl⟩
  have hns : s.length = n := by rw [← hn, ← hS, bts_size]
  have hG8 : G.size = 8 := by rw [← hG]; rfl
  have HS := Lib.hid hS
  have HG := Lib.hid hG
  have HNS := Lib.hid hns
  have HN := Lib.hid hn
  have HG8 := Lib.hid hG8
  obtain ⟨A, hA⟩ : ∃ A, bts (Ar.word s) = A := ⟨_, rfl⟩
  obtain ⟨R, hR⟩ : ∃ A, bts (Ar.rest s) = A := ⟨_, rfl⟩
  have HA := Lib.hid hA
  have HR := Lib.hid hR
  have hnI : (n : Int) ≤ 1099511627776 := by omega
  rw [hA, hR, hS, hG]
  clear hS hG hns hA hR hl
  go_enter Tryz.func95, Tryz.ntmps95
  go_wp2_with fail
  clear hn hG8
  go_loopg [10] n (fun g y wr => ∃ i : Nat, i + g = n ∧ y = .int .i64 (i : Int) ∧ Hid (NoSf s i) ∧ Hid (Below w.heap.size w wr))
  case atStart => exact ⟨0, by omega, rfl, Lib.hid (fun j b hj => absurd hj (by omega)), Lib.hid (Below.refl _ _)⟩
  case round =>
    obtain ⟨i, hig, rfl, HNO, HB⟩ := hrel
    have HIG := Lib.hid hig
    clear hig
    by_cases hin : i < n
    · have hi : i < S.size := by rw [HN.out]; exact hin
      obtain ⟨x, hx⟩ : ∃ x, s[i]? = some x := ⟨_, List.getElem?_eq_getElem (by rw [HNS.out]; exact hin)⟩
      have hc1 : S[i]'hi = x := lst_at (s := S) (by rw [← HS.out, lst_bts]; exact hx) hi
      have HX := Lib.hid hx
      have HIN := Lib.hid hin
      have hi1 : (0 : Int) ≤ (i : Int) := by omega
      have hi2 : (i : Int) < (n : Int) := by omega
      have hi3 : (i : Int) ≤ (n : Int) := by omega
      have hsz : S.size = n := HN.out
      have hgz : G.size = 8 := HG8.out
      clear hx hin
      go_wp2_with fail
      clear hsz hgz
      go_loopg [15] 8 (fun g y wr2 => ∃ k : Nat, k + g = 8 ∧ y = .int .i64 (k : Int) ∧ Hid (∀ j, j < k → Ar.signs[j]? ≠ some x) ∧ Hid (Below w.heap.size w wr2))
      case atStart => exact ⟨0, by omega, rfl, Lib.hid (fun j hj => absurd hj (by omega)), HB⟩
      case round =>
        obtain ⟨k, hk, rfl, HK, HB2⟩ := hrel
        have HKG := Lib.hid hk
        clear hk
        by_cases hk8 : k < 8
        · have hkG : k < G.size := by rw [HG8.out]; exact hk8
          obtain ⟨y, hy⟩ : ∃ y, Ar.signs[k]? = some y := ⟨_, List.getElem?_eq_getElem hk8⟩
          have hc2 : G[k]'hkG = y := lst_at (s := G) (by rw [← HG.out, lst_bts]; exact hy) hkG
          have HY := Lib.hid hy
          have hk1 : (0 : Int) ≤ (k : Int) := by omega
          have hk2 : (k : Int) < 8 := by omega
          have HK8 := Lib.hid hk8
          have hsz : S.size = n := HN.out
          have hgz : G.size = 8 := HG8.out
          by_cases hxy : x = y
          · have hcmp : ((x.toNat : Int) == (y.toNat : Int)) = true := by rw [hxy]; simp
            have HH := Lib.hid (front_hit HNO.out HX.out (by rw [hxy]; exact signs_at hy))
            have hx1 : S.extract 0 i = A := by rw [← HA.out, ← HS.out, HH.out.1]; exact Nr.ext_take s i
            have hx2 : S.extract i n = R := by rw [← HR.out, ← HS.out, HH.out.2, ← HNS.out]; exact Nr.ext_drop s i
            clear hy hk8 hxy
            go_wp2_with fail
            go_quiet (fail)
            go_wp2_with fail
            go_quiet (fail)
            go_wp2_with fail
            go_ret2
            exact ⟨rfl, below_drewN (below_drewN HB2.out _) _⟩
          · have hcmp : ((x.toNat : Int) == (y.toNat : Int)) = false := by
              simp only [beq_eq_false_iff_ne]
              intro e
              exact hxy (UInt8.toNat_inj.1 (by omega))
            have HK2 : Hid (∀ j, j < k + 1 → Ar.signs[j]? ≠ some x) := Lib.hid (fun j hj e => by
              rcases Nat.lt_or_ge j k with h | h
              · exact HK.out j h e
              · obtain rfl : j = k := by omega
                rw [HY.out] at e; cases e; exact hxy rfl)
            clear hy hk8 hxy
            go_wp2_with fail
            go_quiet (fail)
            go_wp2_with fail
            go_roundg (8 - (k + 1))
            case measure => (have := HKG.out; have := HK8.out; omega)
            case rel => exact ⟨k + 1, by have := HKG.out; have := HK8.out; omega, by simp, HK2, Lib.hid (below_drewN HB2.out _)⟩
        · obtain rfl : k = 8 := by have := HKG.out; omega
          have HN2 : Hid (NoSf s (i + 1)) := Lib.hid (fun j b hj hb => by
            rcases Nat.lt_or_ge j i with h | h
            · exact HNO.out j b h hb
            · obtain rfl : j = i := by omega
              rw [HX.out] at hb; cases hb
              exact signs_none HK.out)
          clear hk8
          go_wp2_with fail
          go_roundg (n - (i + 1))
          case measure => (have := HIG.out; have := HIN.out; omega)
          case rel => exact ⟨i + 1, by have := HIG.out; have := HIN.out; omega, by simp, HN2, HB2⟩
    · obtain rfl : i = n := by have := HIG.out; omega
      have HH := Lib.hid (front_none (s := s) (by rw [HNS.out]; exact HNO.out))
      have e1 : Hid (S = A) := Lib.hid (by rw [← HA.out, HH.out.1, HS.out])
      have e2 : Hid ((⟨#[]⟩ : ByteArray) = R) := Lib.hid (by rw [← HR.out, HH.out.2]; rfl)
      clear hin
      go_wp2_with fail
      go_ret2
      exact ⟨by rw [← e1.out, ← e2.out]; rfl, HB.out⟩
end Go.Proofs.YtkemlckmfgacdaaGreatDoor
/- Contract: the document's IntOf. -/
namespace Go.Proofs.YtkemlckmfgacdaaGreatDoor
open Go.ChangeShapes Go.WideShapes Go.ChangeAt Go.RowKit
set_option linter.unusedVariables false
set_option linter.unusedSimpArgs false
open Tp Nt
/-- the digits so far -/
structure DigTo (d : Bs) (j : Nat) (u : Nat) : Prop where
  all : ∀ c, c ∈ d.take j → isD c
  val : u = Nt.val 0 (d.take j)
  few : j ≤ 19
  small : u < 10 ^ j
theorem DigTo.zero (d : Bs) : DigTo d 0 0 := ⟨(fun c h => by cases h), rfl, by omega, by decide⟩
theorem DigTo.succ {d : Bs} {j u : Nat} {c : UInt8} (h : DigTo d j u) (hx : d[j]? = some c) (hc : isD c) (hj : j ≤ 18) : DigTo d (j + 1) (u * 10 + (c.toNat - 48)) := by
  have ht := take_snoc hx
  refine ⟨fun x hx2 => ?_, ?_, by omega, ?_⟩
  · rw [ht, List.mem_append] at hx2
    rcases hx2 with h2 | h2
    · exact h.all x h2
    · rw [List.mem_singleton] at h2; rw [h2]; exact hc
  · rw [ht, val_append, ← h.val]; rfl
  · have := h.small
    unfold isD at hc
    rw [Nat.pow_succ]; omega
theorem DigTo.fin {d : Bs} {j u : Nat} (h : DigTo d j u) (hj : d.length = j) : digs d = some u := by
  have := h.all
  have hv := h.val
  rw [← hj, List.take_length] at this hv
  unfold digs
  rw [if_pos ⟨this, by rw [hj]; exact h.few⟩, hv]
theorem digs_bad {d : Bs} {j : Nat} {c : UInt8} (hx : d[j]? = some c) (h : ¬ isD c ∨ 18 < j) : digs d = none := by
  unfold digs
  rw [if_neg]
  rintro ⟨h1, h2⟩
  rcases h with h | h
  · exact h (h1 c (List.mem_of_getElem? hx))
  · have := (List.getElem?_eq_some_iff.1 hx).1
    omega
/-- what IntOf tells -/
def IntOfQ (w : World) (s : Bs) (e : Ending) (w' : World) : Prop := ∃ n, e = .returned (.tuple #[.int .i64 n, .bool (intOf s).isSome]) ∧ (∀ v, intOf s = some v → n = v) ∧ Below w.heap.size w w'
theorem intOf_cons (c : UInt8) (r : Bs) : intOf (c :: r) = (match digs (if c = 45 then r else c :: r) with
    | none => none
    | some u => if (if c = 45 then r else c :: r) = [] ∨ 9223372036854775808 < u ∨ (u = 9223372036854775808 ∧ c ≠ 45) then none
      else if decI (if c = 45 then -(u : Int) else u) = c :: r then some (if c = 45 then -(u : Int) else u) else none) := rfl
set_option maxRecDepth 20000 in
set_option maxHeartbeats 16000000 in
theorem IntOf_any (s : Bs) (w : World) (hs : s.length ≤ 1099511627776) : Calls Tryz.prog 45 #[.string (bts s)] w fun e w' => IntOfQ w s e w' := by
  cases s with
  | nil =>
    have HV : Hid (intOf [] = none) := Lib.hid rfl
    rw [show bts [] = (⟨#[]⟩ : ByteArray) from rfl]
    go_enter Tryz.func45, Tryz.ntmps45
    go_wp2_with fail
    go_rounds 1
    go_wp2_with fail
    go_ret2
    exact ⟨0, rfl, (fun v h => by rw [HV.out] at h; cases h), Below.refl _ _⟩
  | cons c r =>
    obtain ⟨S, hS⟩ : ∃ S, bts (c :: r) = S := ⟨_, rfl⟩
    obtain ⟨d, hd⟩ : ∃ d, (if c = 45 then r else c :: r) = d := ⟨_, rfl⟩
    obtain ⟨Dg, hDg⟩ : ∃ D, bts d = D := ⟨_, rfl⟩
    obtain ⟨low, hlow⟩ : ∃ b, decide (c = 45) = b := ⟨_, rfl⟩
    obtain ⟨k, hk⟩ : ∃ k, d.length = k := ⟨_, rfl⟩
    have hc45 : ((c.toNat : Int) == 45) = low := by
      rw [← hlow]
      by_cases h : c = 45
      · subst h; rfl
      · have : ¬ (c.toNat : Int) = 45 := fun e => h (UInt8.toNat_inj.1 (show c.toNat = 45 from by omega))
        simp [h, this]
    have hS0 : S.size = r.length + 1 := by rw [← hS, bts_size]; rfl
    have hSn : ¬ S.size = 0 := by omega
    have hSl : ¬ S.toList = [] := by rw [← hS, bts_toList]; simp
    have hSl2 : S.toList.isEmpty = false := by rw [← hS, bts_toList]; rfl
    have hSc : S[0]'(by omega) = c := lst_at (s := S) (by rw [← hS, lst_bts]; rfl) (by omega)
    have HS := Lib.hid hS
    have HD := Lib.hid hd
    have HDG := Lib.hid hDg
    have HLOW := Lib.hid hlow
    have HK := Lib.hid hk
    rw [hS]
    clear hd hDg hlow hk
    go_enter Tryz.func45, Tryz.ntmps45
    go_upto_if 17 with fail
    go_cut [5] (fun v W => v = .string Dg ∧ W = w)
    case first =>
      cases low with
      | true =>
        have h45 : c = 45 := of_decide_eq_true HLOW.out
        have hext : S.extract 1 (r.length + 1) = Dg := by
          have e1 := HD.out
          rw [if_pos h45] at e1
          rw [← HDG.out, ← e1, ← HS.out]
          apply ByteArray.ext
          apply Array.toList_inj.1
          show ((bts (c :: r)).extract 1 (r.length + 1)).data.toList = r
          have e : ((bts (c :: r)).extract 1 (r.length + 1)).data.toList = ((c :: r).drop 1).take r.length := by
            show ((bts (c :: r)).extract 1 (r.length + 1)).data.toList = _
            simp [ByteArray.data_extract, Array.toList_extract, bts]
          rw [e]
          simp
        go_wp2_with fail
        go_meet
        exact ⟨by simp [hext], rfl⟩
      | false =>
        have h45 : ¬ c = 45 := of_decide_eq_false HLOW.out
        have e1 := HD.out
        rw [if_neg h45] at e1
        have e2 : Dg = S := by rw [← HDG.out, ← e1, HS.out]
        subst e2
        go_wp2_with fail
        go_meet
        exact ⟨rfl, rfl⟩
    case rest =>
      obtain ⟨rfl, rfl⟩ := hcut
      have hDs : Dg.size = k := by rw [← HDG.out, bts_size, HK.out]
      have hk1 : k ≤ 1099511627776 := by
        have e1 := HD.out
        have e2 := HK.out
        by_cases h : c = 45
        · rw [if_pos h] at e1; rw [← e2, ← e1]; simp at hs; omega
        · rw [if_neg h] at e1; rw [← e2, ← e1]; exact hs
      clear hs
      go_wp2_with fail
      go_loopg [6, 22] k (fun g x y wr => ∃ (j u : Nat), j + g = k ∧ y = .int .i64 (j : Int) ∧ x = .int .u64 (u : Int) ∧ Hid (DigTo d j u) ∧ Hid (Below wc.heap.size wc wr))
      case atStart => exact ⟨0, 0, by omega, rfl, rfl, Lib.hid (DigTo.zero d), Lib.hid (Below.refl _ _)⟩
      case round =>
        obtain ⟨j, u, hj, rfl, rfl, HT, HB⟩ := hrel
        have HJ := Lib.hid hj
        by_cases hjk : j < k
        · obtain ⟨x, hx⟩ : ∃ x, d[j]? = some x := ⟨_, List.getElem?_eq_getElem (by rw [HK.out]; exact hjk)⟩
          have hjs : j < Dg.size := by omega
          have hc1 : Dg[j]'hjs = x := lst_at (s := Dg) (by rw [← HDG.out, lst_bts]; exact hx) hjs
          have hj1 : (0 : Int) ≤ (j : Int) := by omega
          have hj2 : (j : Int) < (k : Int) := by omega
          by_cases hbad : ¬ isD x ∨ 18 < j
          · have HN : Hid (intOf (c :: r) = none) := Lib.hid (by rw [intOf_cons, HD.out, digs_bad hx hbad])
            have hx0 : 0 ≤ (x.toNat : Int) := by omega
            rcases Nat.lt_or_ge x.toNat 48 with h1 | h1
            · have h1' : (x.toNat : Int) < 48 := by omega
              clear hx hbad hj
              go_wp2_with fail
              go_ret2
              exact ⟨0, by rw [HN.out]; rfl, (fun v h => by rw [HN.out] at h; cases h), HB.out⟩
            · rcases Nat.lt_or_ge 57 x.toNat with h2 | h2
              · have h1' : ¬ (x.toNat : Int) < 48 := by omega
                have h2' : (57 : Int) < (x.toNat : Int) := by omega
                clear hx hbad hj
                go_wp2_with fail
                go_ret2
                exact ⟨0, by rw [HN.out]; rfl, (fun v h => by rw [HN.out] at h; cases h), HB.out⟩
              · have h3 : (18 : Int) < (j : Int) := by
                  rcases hbad with h | h
                  · exact absurd ⟨h1, h2⟩ h
                  · omega
                have h1' : ¬ (x.toNat : Int) < 48 := by omega
                have h2' : ¬ (57 : Int) < (x.toNat : Int) := by omega
                clear hx hbad hj
                go_wp2_with fail
                go_ret2
                exact ⟨0, by rw [HN.out]; rfl, (fun v h => by rw [HN.out] at h; cases h), HB.out⟩
          · have hgood : isD x ∧ j ≤ 18 := ⟨Classical.byContradiction (fun h => hbad (.inl h)), by have := fun h => hbad (.inr h); omega⟩
            have HS1 := Lib.hid (HT.out.succ hx hgood.1 hgood.2)
            have hu := HT.out.small
            have hu2 : 10 ^ j ≤ 10 ^ 18 := Nat.pow_le_pow_right (by decide) hgood.2
            have hd := hgood.1
            unfold isD at hd
            have hux : (u : Int) ≤ 1000000000000000000 := by
              have e : (10 : Nat) ^ 18 = 1000000000000000000 := by decide
              omega
            have h1' : ¬ (x.toNat : Int) < 48 := by omega
            have h2' : ¬ (57 : Int) < (x.toNat : Int) := by omega
            have h3' : ¬ (18 : Int) < (j : Int) := by omega
            have w1 : IntKind.u64.wrap ((u : Int) * 10) = (u : Int) * 10 := IntWalk.u64_in _ (by omega)
            have w2 : IntKind.u8.wrap ((x.toNat : Int) - 48) = (x.toNat : Int) - 48 := by rw [IntKind.wrap]; simp [IntKind.signed, IntKind.bits]; omega
            have w3 : IntKind.u64.wrap ((x.toNat : Int) - 48) = (x.toNat : Int) - 48 := IntWalk.u64_in _ (by omega)
            have w4 : IntKind.u64.wrap ((u : Int) * 10 + ((x.toNat : Int) - 48)) = ((u * 10 + (x.toNat - 48) : Nat) : Int) := (IntWalk.u64_in _ (by omega)).trans (by omega)
            clear hx hbad hgood hu hu2 hd hj
            go_wp2_with fail
            go_roundg (k - (j + 1))
            case measure => (have := HJ.out; omega)
            case rel => exact ⟨j + 1, u * 10 + (x.toNat - 48), by have := HJ.out; omega, by simp, by simp, HS1, HB⟩
        · obtain rfl : j = k := by omega
          have HDIG := Lib.hid (HT.out.fin HK.out)
          have hu := HT.out.small
          have hu19 : u < 10000000000000000000 := Nat.lt_of_lt_of_le hu (Nat.le_trans (Nat.pow_le_pow_right (by decide) HT.out.few) (by decide))
          clear hu hj
          go_upto_region 13 with fail
          have HI : Hid (intOf (c :: r) = (if d = [] ∨ 9223372036854775808 < u ∨ (u = 9223372036854775808 ∧ c ≠ 45) then none else if decI (if c = 45 then -(u : Int) else u) = c :: r then some (if c = 45 then -(u : Int) else u) else none)) := Lib.hid (by rw [intOf_cons, HD.out, HDIG.out])
          by_cases hd0 : d = []
          · have HN : Hid (intOf (c :: r) = none) := Lib.hid (by rw [HI.out, if_pos (.inl hd0)])
            have hDg0 : Dg = ⟨#[]⟩ := by rw [← HDG.out, hd0]; rfl
            subst hDg0
            clear hd0
            go_wp2_with fail
            go_ret2
            exact ⟨0, by rw [HN.out]; rfl, (fun v h => by rw [HN.out] at h; cases h), HB.out⟩
          · have hDl : ¬ Dg.toList = [] := by rw [← HDG.out, bts_toList]; exact hd0
            have hDl2 : Dg.toList.isEmpty = false := by rw [← HDG.out, bts_toList]; cases d with | nil => exact absurd rfl hd0 | cons => rfl
            rcases Nat.lt_or_ge 9223372036854775808 u with hbig | hbig
            · have HN : Hid (intOf (c :: r) = none) := Lib.hid (by rw [HI.out, if_pos (.inr (.inl hbig))])
              have hb1 : (9223372036854775808 : Int) < (u : Int) := by omega
              clear hd0 hbig
              go_wp2_with fail
              go_ret2
              exact ⟨0, by rw [HN.out]; rfl, (fun v h => by rw [HN.out] at h; cases h), HB.out⟩
            · have hb1 : ¬ (9223372036854775808 : Int) < (u : Int) := by omega
              cases low with
              | false =>
                have h45 : ¬ c = 45 := of_decide_eq_false HLOW.out
                by_cases hu63 : u = 9223372036854775808
                · have HN : Hid (intOf (c :: r) = none) := Lib.hid (by rw [HI.out, if_pos (.inr (.inr ⟨hu63, h45⟩))])
                  have hb2 : (u : Int) = 9223372036854775808 := by omega
                  clear hd0 hbig
                  go_wp2_with fail
                  go_ret2
                  exact ⟨0, by rw [HN.out]; rfl, (fun v h => by rw [HN.out] at h; cases h), HB.out⟩
                · have HOK : Hid (intOf (c :: r) = if decI (u : Int) = c :: r then some (u : Int) else none) := Lib.hid (by rw [HI.out, if_neg (by rintro (h | h | h); exact hd0 h; omega; exact hu63 h.1), if_neg h45])
                  have hb2 : ((u : Int) == 9223372036854775808) = false := by simp; omega
                  have w1 : IntKind.i64.wrap (u : Int) = (u : Int) := IntWalk.i64_in _ (by omega)
                  have hu9 : (u : Int) ≤ 9223372036854775807 := by omega
                  clear hd0 hbig hu63
                  obtain ⟨V, hV⟩ : ∃ V, bts (decI (u : Int)) = V := ⟨_, rfl⟩
                  have HV := Lib.hid hV
                  have HC := Lib.hid (DecimalW_any (u : Int) wr (by omega) (by omega))
                  rw [hV] at HC
                  have HE : Hid ((V.toList == S.toList) = (intOf (c :: r)).isSome) := Lib.hid (by
                    rw [HOK.out, ← HV.out, ← HS.out, bts_eq]
                    by_cases h : decI (u : Int) = c :: r
                    · rw [if_pos h, decide_eq_true h]; rfl
                    · rw [if_neg h, decide_eq_false h]; rfl)
                  clear hV
                  go_wp2_with fail
                  refine Calls.mono HC.out ?_
                  rintro e' W ⟨rfl, hb⟩
                  go_wp2_with fail
                  go_ret2
                  refine ⟨(u : Int), by rw [← HE.out]; rfl, (fun v h => ?_), HB.out.trans (hb.mono HB.out.size)⟩
                  rw [HOK.out] at h
                  split at h
                  · injection h
                  · cases h
              | true =>
                have h45 : c = 45 := of_decide_eq_true HLOW.out
                have HOK : Hid (intOf (c :: r) = if decI (-(u : Int)) = c :: r then some (-(u : Int)) else none) := Lib.hid (by rw [HI.out, if_neg (by rintro (h | h | h); exact hd0 h; omega; exact h.2 h45), if_pos h45])
                by_cases hu63 : u = 9223372036854775808
                · have w1 : IntKind.i64.wrap (u : Int) = -(u : Int) := by rw [hu63]; decide
                  have hb2 : ((u : Int) == 9223372036854775808) = true := by rw [hu63]; decide
                  have hr1 : -9223372036854775808 ≤ -(u : Int) := by omega
                  have hr2 : -(u : Int) ≤ 9223372036854775807 := by omega
                  clear hd0 hbig hu63
                  obtain ⟨V, hV⟩ : ∃ V, bts (decI (-(u : Int))) = V := ⟨_, rfl⟩
                  have HV := Lib.hid hV
                  have HC := Lib.hid (DecimalW_any (-(u : Int)) wr hr1 hr2)
                  rw [hV] at HC
                  have HE : Hid ((V.toList == S.toList) = (intOf (c :: r)).isSome) := Lib.hid (by
                    rw [HOK.out, ← HV.out, ← HS.out, bts_eq]
                    by_cases h : decI (-(u : Int)) = c :: r
                    · rw [if_pos h, decide_eq_true h]; rfl
                    · rw [if_neg h, decide_eq_false h]; rfl)
                  clear hV
                  go_wp2_with fail
                  refine Calls.mono HC.out ?_
                  rintro e' W ⟨rfl, hb⟩
                  go_wp2_with fail
                  go_ret2
                  refine ⟨(-(u : Int)), by rw [← HE.out]; rfl, (fun v h => ?_), HB.out.trans (hb.mono HB.out.size)⟩
                  rw [HOK.out] at h
                  split at h
                  · injection h
                  · cases h
                · have hu9 : (u : Int) ≤ 9223372036854775807 := by omega
                  have hb2 : ((u : Int) == 9223372036854775808) = false := by simp; omega
                  have w1 : IntKind.i64.wrap (u : Int) = (u : Int) := IntWalk.i64_in _ (by omega)
                  have w2 : IntKind.i64.wrap (-(u : Int)) = -(u : Int) := IntWalk.i64_in _ (by omega)
                  clear hd0 hbig hu63
                  obtain ⟨V, hV⟩ : ∃ V, bts (decI (-(u : Int))) = V := ⟨_, rfl⟩
                  have HV := Lib.hid hV
                  have HC := Lib.hid (DecimalW_any (-(u : Int)) wr (by omega) (by omega))
                  rw [hV] at HC
                  have HE : Hid ((V.toList == S.toList) = (intOf (c :: r)).isSome) := Lib.hid (by
                    rw [HOK.out, ← HV.out, ← HS.out, bts_eq]
                    by_cases h : decI (-(u : Int)) = c :: r
                    · rw [if_pos h, decide_eq_true h]; rfl
                    · rw [if_neg h, decide_eq_false h]; rfl)
                  clear hV
                  go_wp2_with fail
                  refine Calls.mono HC.out ?_
                  rintro e' W ⟨rfl, hb⟩
                  go_wp2_with fail
                  go_ret2
                  refine ⟨(-(u : Int)), by rw [← HE.out]; rfl, (fun v h => ?_), HB.out.trans (hb.mono HB.out.size)⟩
                  rw [HOK.out] at h
                  split at h
                  · injection h
                  · cases h
end Go.Proofs.YtkemlckmfgacdaaGreatDoor
/- What the document's reader of an ask tells; its cases. -/
namespace Go.Proofs.YtkemlckmfgacdaaGreatDoor
open Go.ChangeShapes Go.WideShapes Go.ChangeAt Go.RowKit
set_option linter.unusedVariables false
open Tp
/-- what the document's reader tells -/
def AskAtQ (w : World) (o : Option (Ask × Bs)) (e : Ending) (w' : World) : Prop := Below w.heap.size w w' ∧ match o with
  | some (x, r) => ∃ v, e = .returned (.tuple #[v, .string (bts r), .bool true]) ∧ Five v ∧ AskVP (fun b => w.heap.size ≤ b) w' x v
  | none => ∃ v t, e = .returned (.tuple #[v, .string t, .bool false]) ∧ Five v
/-- the same, the value named -/
def AskAtR (w : World) (o : Option (Ask × Bs)) (bv : Bool) (v : Value) (t : ByteArray) (w' : World) : Prop := match o with
  | some (x, r) => bv = true ∧ bts r = t ∧ AskVP (fun b => w.heap.size ≤ b) w' x v
  | none => bv = false
theorem AskAtQ.form {w w' : World} {o : Option (Ask × Bs)} {e : Ending} (h : AskAtQ w o e w') : Below w.heap.size w w' ∧ ∃ (bv : Bool) (x0 : Int) (x1 x2 : ByteArray) (x3 : Int) (xd : Option Addr) (xl xc : Nat) (t : ByteArray), e = .returned (.tuple #[.agg #[.int .i64 x0, .string x1, .string x2, .int .i64 x3, .slice xd xl xc], .string t, .bool bv]) ∧ AskAtR w o bv (.agg #[.int .i64 x0, .string x1, .string x2, .int .i64 x3, .slice xd xl xc]) t w' := by
  obtain ⟨hb, h⟩ := h
  cases o with
  | none =>
    obtain ⟨v, t, rfl, ⟨x0, x1, x2, x3, xd, xl, xc, rfl⟩⟩ := h
    exact ⟨hb, _, _, _, _, _, _, _, _, _, rfl, rfl⟩
  | some p =>
    obtain ⟨x, r⟩ := p
    obtain ⟨v, rfl, ⟨x0, x1, x2, x3, xd, xl, xc, rfl⟩, h1⟩ := h
    exact ⟨hb, _, _, _, _, _, _, _, _, _, rfl, rfl, rfl, h1⟩
theorem AskAtQ.mk' {w w' : World} {o : Option (Ask × Bs)} {bv : Bool} {x0 : Int} {x1 x2 : ByteArray} {x3 : Int} {xd : Option Addr} {xl xc : Nat} {t : ByteArray} (hb : Below w.heap.size w w') (h : AskAtR w o bv (.agg #[.int .i64 x0, .string x1, .string x2, .int .i64 x3, .slice xd xl xc]) t w') : AskAtQ w o (.returned (.tuple #[.agg #[.int .i64 x0, .string x1, .string x2, .int .i64 x3, .slice xd xl xc], .string t, .bool bv])) w' := by
  refine ⟨hb, ?_⟩
  cases o with
  | none =>
    obtain rfl := h
    exact ⟨_, _, rfl, ⟨_, _, _, _, _, _, _, rfl⟩⟩
  | some p =>
    obtain ⟨x, r⟩ := p
    obtain ⟨rfl, rfl, h2⟩ := h
    exact ⟨_, rfl, ⟨_, _, _, _, _, _, _, rfl⟩, h2⟩
/-- an ask that begins with a word -/
def elseR (A R : Bs) : Option (Ask × Bs) := match R with
  | 62 :: 61 :: t => match Nt.intOf (Ar.word t) with
    | some n => some (.mk 3 A [] n [], Ar.rest t)
    | none => none
  | 61 :: t => some (.mk 2 A (Ar.word t) 0 [], Ar.rest t)
  | _ => none
theorem askR_else {N : Nat} {s : Bs} (h0 : s ≠ []) (hs : ∀ c t, s = c :: t → Ar.sgn c = false) : Ar.askR (N + 1) s = elseR (Ar.word s) (Ar.rest s) := by
  rw [Ar.askR_word h0 hs]; rfl
theorem elseR_is (A t : Bs) : elseR A (61 :: t) = some (.mk 2 A (Ar.word t) 0 [], Ar.rest t) := rfl
theorem elseR_more (A t : Bs) : elseR A (62 :: 61 :: t) = match Nt.intOf (Ar.word t) with | some n => some (.mk 3 A [] n [], Ar.rest t) | none => none := rfl
theorem elseR_no {A R : Bs} (h1 : ∀ t, R ≠ 62 :: 61 :: t) (h2 : ∀ t, R ≠ 61 :: t) : elseR A R = none := by
  unfold elseR
  split
  · rename_i t; exact absurd rfl (h1 t)
  · rename_i t; exact absurd rfl (h2 t)
  · rfl
/-- behind the second of two asks -/
def secR (k : Int) (a : Ask) (o : Option (Ask × Bs)) : Option (Ask × Bs) := match o with
  | some (b, 41 :: r2) => some (.mk k [] [] 0 [a, b], r2)
  | _ => none
theorem secR_no {k : Int} {a b : Ask} {r : Bs} (h : ∀ t, r ≠ 41 :: t) : secR k a (some (b, r)) = none := by
  unfold secR
  split
  · rename_i e; injection e with e; injection e with e1 e2; exact absurd e2 (h _)
  · rfl
/-- behind the first of two asks -/
def fstR (N : Nat) (a : Ask) (r : Bs) : Option (Ask × Bs) := match r with
  | 124 :: r' => secR 6 a (Ar.askR N r')
  | 38 :: r' => secR 5 a (Ar.askR N r')
  | _ => none
theorem fstR_no {N : Nat} {a : Ask} {r : Bs} (h1 : ∀ t, r ≠ 124 :: t) (h2 : ∀ t, r ≠ 38 :: t) : fstR N a r = none := by
  unfold fstR
  split
  · rename_i t; exact absurd rfl (h1 t)
  · rename_i t; exact absurd rfl (h2 t)
  · rfl
theorem askR_nil (N : Nat) : Ar.askR (N + 1) [] = none := by rw [Ar.askR]
theorem askR_has (N : Nat) (t : Bs) : Ar.askR (N + 1) (63 :: t) = some (.mk 1 (Ar.word t) [] 0 [], Ar.rest t) := by rw [Ar.askR]
theorem askR_not (N : Nat) (t : Bs) : Ar.askR (N + 1) (33 :: t) = match Ar.askR N t with | none => none | some (y, r) => some (.mk 4 [] [] 0 [y], r) := by
  rw [Ar.askR]
  cases Ar.askR N t with
  | none => rfl
  | some p => rfl
theorem askR_two (N : Nat) (t : Bs) : Ar.askR (N + 1) (40 :: t) = match Ar.askR N t with | none => none | some (a, r) => fstR N a r := by
  rw [Ar.askR]
  cases Ar.askR N t with
  | none => rfl
  | some p => rfl
/-- five cells of a new block of the call's own: what lay there before stays -/
theorem leaf_at {B : Nat} {w W : World} {x : Ask} {r : Bs} {k n : Int} {a b : Bs} (hb : Below w.heap.size w W) (ha : a.length ≤ 9223372036854775807) (hb2 : b.length ≤ 9223372036854775807) : AskAtR w (some (.mk k a b n [], r)) true (.agg #[.int .i64 k, .string (bts a), .string (bts b), .int .i64 n, .slice none 0 0]) (bts r) W :=
  ⟨rfl, rfl, leaf_vp k a b n ha hb2⟩
/-- the block of one ask comes first, the five cells are written after -/
theorem tree_oneA {S c B : Nat} {W : World} {y : Ask} {x0 x3 : Int} {x1 x2 : ByteArray} {xd : Option Addr} {xl xc : Nat} {t' : TypeId} (hS : S ≤ W.heap.size) (hc : c < S) (hB : B ≤ S)
    (HX : AskVP (fun b => S ≤ b) W y (.agg #[.int .i64 x0, .string x1, .string x2, .int .i64 x3, .slice xd xl xc])) (v0 v1 v2 v3 v4 : Value) :
    AskVP (fun b => B ≤ b) (five (W.alloc (.cells #[.int .i64 x0, .string x1, .string x2, .int .i64 x3, .slice xd xl xc] t')) c v0 v1 v2 v3 v4) (.mk 4 [] [] 0 [y]) (.agg #[.int .i64 4, .string ⟨#[]⟩, .string ⟨#[]⟩, .int .i64 0, .slice (some ⟨W.heap.size, 0, none⟩) 1 1]) := by
  have hcell : ∀ i, (five (W.alloc (.cells #[.int .i64 x0, .string x1, .string x2, .int .i64 x3, .slice xd xl xc] t')) c v0 v1 v2 v3 v4).cell? ⟨W.heap.size, i, none⟩ = (#[.int .i64 x0, .string x1, .string x2, .int .i64 x3, .slice xd xl xc] : Array Value)[i]? := fun i => (cell_of_block (p := ⟨W.heap.size, i, none⟩) (five_heap _ _ _ _ _ _ _ _ (by show W.heap.size ≠ c; omega))).trans (cell_top _ _ _ _ _ rfl)
  have hold : ∀ b, b ≠ c → b < W.heap.size → (five (W.alloc (.cells #[.int .i64 x0, .string x1, .string x2, .int .i64 x3, .slice xd xl xc] t')) c v0 v1 v2 v3 v4).heap[b]? = W.heap[b]? := fun b h1 hb => (five_heap _ _ _ _ _ _ _ b h1).trans (Below.heap_alloc _ _ _ hb)
  rw [AskVP]
  refine ⟨_, _, _, rfl, rfl, Nat.le_refl _, by omega, by simp, by simp, fun _ => ⟨_, _, rfl, by rw [five_size]; simp, by show B ≤ W.heap.size; omega, ?_⟩⟩
  rw [AsksVP, AsksVP]
  refine ⟨⟨.agg #[.int .i64 x0, .string x1, .string x2, .int .i64 x3, .slice xd xl xc], ⟨_, _, _, _, _, rfl, (hcell _).trans rfl, (hcell _).trans rfl, (hcell _).trans rfl, (hcell _).trans rfl, (hcell _).trans rfl⟩, ?_⟩, trivial⟩
  exact AskVP.stays (fun b h => Nat.le_trans hB h) (by rw [five_size]; simp) (fun b h hlt => hold b (by omega) hlt) _ _ HX
end Go.Proofs.YtkemlckmfgacdaaGreatDoor
/- Contract: the document's reader of an ask, as deep as it goes. -/
namespace Go.Proofs.YtkemlckmfgacdaaGreatDoor
open Go.ChangeShapes Go.WideShapes Go.ChangeAt Go.RowKit
set_option linter.unusedVariables false
set_option linter.unusedSimpArgs false
open Tp
set_option maxRecDepth 20000 in
set_option maxHeartbeats 16000000 in
/-- nothing to read, or too deep -/
theorem askAt_none (N : Nat) (s : Bs) (w : World) (hN : N ≤ 61) (hs : s.length ≤ 2000) (h0 : N = 0 ∨ s = []) : Calls Tryz.prog 76 #[.string (bts s), .int .i64 N] w (AskAtQ w none) := by
  obtain ⟨S, hS⟩ : ∃ S, bts s = S := ⟨_, rfl⟩
  obtain ⟨c, hc⟩ : ∃ c, c = w.heap.size := ⟨_, rfl⟩
  obtain ⟨W0, hW0⟩ : ∃ W, W = w.alloc (.cells #[.int .i64 0, .string ⟨#[]⟩, .string ⟨#[]⟩, .int .i64 0, .slice none 0 0] 26) := ⟨_, rfl⟩
  obtain ⟨z, hz⟩ : ∃ z, z = W0.heap.size := ⟨_, rfl⟩
  obtain ⟨W1, hW1⟩ : ∃ W, W = W0.alloc (.cells #[.int .i64 0, .string ⟨#[]⟩, .string ⟨#[]⟩, .int .i64 0, .slice none 0 0] 26) := ⟨_, rfl⟩
  have hb0 : Below w.heap.size w W0 := by rw [hW0]; exact (Below.refl _ _).alloc (Nat.le_refl _) _
  have HB : Hid (Below w.heap.size w W1) := Lib.hid (by rw [hW1]; exact hb0.alloc hb0.size _)
  have HBX : Hid (Box5 c W1) := Lib.hid (by rw [hW1]; exact (by rw [hW0]; exact Box5.top hc : Box5 c W0).but ((But.refl W0.heap.size W0).alloc _) (by rw [hW0, hc]; simp))
  have HBZ : Hid (Box5 z W1) := Lib.hid (by rw [hW1]; exact Box5.top hz)
  have HC : Hid (w.heap.size ≤ c) := Lib.hid (Nat.le_of_eq hc.symm)
  obtain ⟨eb, heb⟩ : ∃ b, (S.toList == []) = b := ⟨_, rfl⟩
  have H0 : eb = true ∨ N = 0 := h0.symm.imp (fun h => by rw [← heb, ← hS, h, bts_toList]; rfl) id
  rw [hS]
  clear hb0 hS hs h0
  go_enter Tryz.func76, Tryz.ntmps76
  go_upto_region 1 with fail
  rw [← hW0, ← hc]
  clear hW0 hc
  go_upto_region 2 with fail
  rw [← hW1, ← hz]
  clear hW1 hz
  have r0 := HBX.out.r0
  have r1 := HBX.out.r1
  have r2 := HBX.out.r2
  have r3 := HBX.out.r3
  have r4 := HBX.out.r4
  have q0 := HBX.out.fz 0
  have q1 := HBX.out.fz 1
  have q2 := HBX.out.fz 2
  have q3 := HBX.out.fz 3
  have q4 := HBX.out.fz 4
  have z0 := HBZ.out.r0
  have z1 := HBZ.out.r1
  have z2 := HBZ.out.r2
  have z3 := HBZ.out.r3
  have z4 := HBZ.out.r4
  have hcl := HBX.out.lt
  cases eb with
  | true =>
    clear H0
    go_wp2_with fail
    refine bodyPost_ret (v := .tuple #[.agg #[.int .i64 0, .string ⟨#[]⟩, .string ⟨#[]⟩, .int .i64 0, .slice none 0 0], .string ⟨#[]⟩, .bool false]) (by simp [results, Tryz.results76, go_sem, cell_set, r0, r1, r2, r3, r4, hcl]) rfl ?_
    show AskAtQ w none _ (five W1 c (.int .i64 0) (.string ⟨#[]⟩) (.string ⟨#[]⟩) (.int .i64 0) (.slice none 0 0))
    exact AskAtQ.mk' (five_below HB.out c _ _ _ _ _ HC.out) rfl
  | false =>
    have hn : N = 0 := H0.resolve_left (by simp)
    subst hn
    clear H0
    go_wp2_with fail
    refine bodyPost_ret (v := .tuple #[.agg #[.int .i64 0, .string ⟨#[]⟩, .string ⟨#[]⟩, .int .i64 0, .slice none 0 0], .string ⟨#[]⟩, .bool false]) (by simp [results, Tryz.results76, go_sem, cell_set, r0, r1, r2, r3, r4, hcl]) rfl ?_
    show AskAtQ w none _ (five W1 c (.int .i64 0) (.string ⟨#[]⟩) (.string ⟨#[]⟩) (.int .i64 0) (.slice none 0 0))
    exact AskAtQ.mk' (five_below HB.out c _ _ _ _ _ HC.out) rfl
set_option maxRecDepth 20000 in
set_option maxHeartbeats 16000000 in
/-- a question mark and a word -/
theorem askAt_has (N : Nat) (t : Bs) (w : World) (hN : N < 61) (hs : t.length ≤ 1999) : Calls Tryz.prog 76 #[.string (bts (63 :: t)), .int .i64 ((N + 1 : Nat) : Int)] w (AskAtQ w (Ar.askR (N + 1) (63 :: t))) := by
  rw [askR_has]
  obtain ⟨S, hS⟩ : ∃ S, bts (63 :: t) = S := ⟨_, rfl⟩
  obtain ⟨n, hn⟩ : ∃ n, S.size = n := ⟨_, rfl⟩
  have hnl : n = t.length + 1 := by rw [← hn, ← hS, bts_size]; rfl
  have hsz : 0 < S.size := by rw [← hS, bts_size]; simp
  have hS0 : S[0]'hsz = 63 := lst_at (s := S) (by rw [← hS, lst_bts]; rfl) hsz
  have hSl : ¬ S.toList = [] := by rw [← hS, bts_toList]; simp
  have hSl2 : (S.toList == []) = false := by rw [← hS, bts_toList]; rfl
  have hext : S.extract 1 n = bts t := by
    rw [← hS, hnl]
    have := Nr.ext_drop (63 :: t) 1
    simpa using this
  have h1n : (1 : Int) ≤ (n : Int) := by omega
  obtain ⟨D, hD⟩ : ∃ D : Int, ((N + 1 : Nat) : Int) = D := ⟨_, rfl⟩
  have hD0 : ¬ D = 0 := by omega
  have hD1 : (D == 0) = false := by simpa using hD0
  obtain ⟨c, hc⟩ : ∃ c, c = w.heap.size := ⟨_, rfl⟩
  obtain ⟨W0, hW0⟩ : ∃ W, W = w.alloc (.cells #[.int .i64 0, .string ⟨#[]⟩, .string ⟨#[]⟩, .int .i64 0, .slice none 0 0] 26) := ⟨_, rfl⟩
  obtain ⟨z, hz⟩ : ∃ z, z = W0.heap.size := ⟨_, rfl⟩
  obtain ⟨W1, hW1⟩ : ∃ W, W = W0.alloc (.cells #[.int .i64 0, .string ⟨#[]⟩, .string ⟨#[]⟩, .int .i64 0, .slice none 0 0] 26) := ⟨_, rfl⟩
  have hb0 : Below w.heap.size w W0 := by rw [hW0]; exact (Below.refl _ _).alloc (Nat.le_refl _) _
  have HB : Hid (Below w.heap.size w W1) := Lib.hid (by rw [hW1]; exact hb0.alloc hb0.size _)
  have HBX : Hid (Box5 c W1) := Lib.hid (by rw [hW1]; exact (by rw [hW0]; exact Box5.top hc : Box5 c W0).but ((But.refl W0.heap.size W0).alloc _) (by rw [hW0, hc]; simp))
  have HBZ : Hid (Box5 z W1) := Lib.hid (by rw [hW1]; exact Box5.top hz)
  have HC : Hid (w.heap.size ≤ c) := Lib.hid (Nat.le_of_eq hc.symm)
  have HFR := Lib.hid (fun W => front_any t W (by omega))
  have HLW : Hid ((Ar.word t).length ≤ 9223372036854775807) := Lib.hid (by have := Ar.word_len t; omega)
  obtain ⟨T, hT⟩ : ∃ T, bts t = T := ⟨_, rfl⟩
  obtain ⟨A, hA⟩ : ∃ T, bts (Ar.word t) = T := ⟨_, rfl⟩
  obtain ⟨R, hR⟩ : ∃ T, bts (Ar.rest t) = T := ⟨_, rfl⟩
  have HA := Lib.hid hA
  have HR := Lib.hid hR
  rw [hT, hA, hR] at HFR
  rw [hT] at hext
  rw [hS, hD]
  clear hb0 hS hs hnl hT hA hR hD hN
  go_enter Tryz.func76, Tryz.ntmps76
  go_upto_region 1 with fail
  rw [← hW0, ← hc]
  clear hW0 hc
  go_upto_region 2 with fail
  rw [← hW1, ← hz]
  clear hW1 hz
  have r0 := HBX.out.r0
  have r1 := HBX.out.r1
  have r2 := HBX.out.r2
  have r3 := HBX.out.r3
  have r4 := HBX.out.r4
  have q0 := HBX.out.fz 0
  have q1 := HBX.out.fz 1
  have q2 := HBX.out.fz 2
  have q3 := HBX.out.fz 3
  have q4 := HBX.out.fz 4
  have z0 := HBZ.out.r0
  have z1 := HBZ.out.r1
  have z2 := HBZ.out.r2
  have z3 := HBZ.out.r3
  have z4 := HBZ.out.r4
  have hcl := HBX.out.lt
  go_wp2_with fail
  refine Calls.mono (HFR.out _) ?_
  rintro e W2 ⟨rfl, hb2⟩
  have HB2 : Hid (Below w.heap.size w W2) := Lib.hid (HB.out.trans (hb2.mono HB.out.size))
  have HBX2 : Hid (Box5 c W2) := Lib.hid ⟨Nat.lt_of_lt_of_le HBX.out.lt hb2.size, (hb2.cell (p := ⟨c, 0, none⟩) HBX.out.lt).trans r0, (hb2.cell (p := ⟨c, 1, none⟩) HBX.out.lt).trans r1, (hb2.cell (p := ⟨c, 2, none⟩) HBX.out.lt).trans r2, (hb2.cell (p := ⟨c, 3, none⟩) HBX.out.lt).trans r3, (hb2.cell (p := ⟨c, 4, none⟩) HBX.out.lt).trans r4, fun i => (hb2.frozen (p := ⟨c, i, none⟩) HBX.out.lt).trans (HBX.out.fz i)⟩
  clear hb2 r0 r1 r2 r3 r4 q0 q1 q2 q3 q4 hcl z0 z1 z2 z3 z4
  have r0 := HBX2.out.r0
  have r1 := HBX2.out.r1
  have r2 := HBX2.out.r2
  have r3 := HBX2.out.r3
  have r4 := HBX2.out.r4
  have q0 := HBX2.out.fz 0
  have q1 := HBX2.out.fz 1
  have q2 := HBX2.out.fz 2
  have q3 := HBX2.out.fz 3
  have q4 := HBX2.out.fz 4
  have hcl := HBX2.out.lt
  go_wp2_with fail
  refine bodyPost_ret (v := .tuple #[.agg #[.int .i64 1, .string A, .string ⟨#[]⟩, .int .i64 0, .slice none 0 0], .string R, .bool true]) (by simp [results, Tryz.results76, go_sem, cell_set, r0, r1, r2, r3, r4, hcl]) rfl ?_
  show AskAtQ w _ _ (five W2 c (.int .i64 1) (.string A) (.string ⟨#[]⟩) (.int .i64 0) (.slice none 0 0))
  refine AskAtQ.mk' (five_below HB2.out c _ _ _ _ _ HC.out) ?_
  rw [← HA.out, ← HR.out]
  exact ⟨rfl, rfl, leaf_vp 1 (Ar.word t) [] 0 HLW.out (by simp)⟩
end Go.Proofs.YtkemlckmfgacdaaGreatDoor
/- Contract: the document's reader of an ask: a '!' and an ask. -/
set_option linter.unusedVariables false
set_option linter.unusedSimpArgs false
namespace Go.Proofs.YtkemlckmfgacdaaGreatDoor
open Go.ChangeShapes Go.WideShapes Go.ChangeAt Go.RowKit
open Tp
/-- behind a '!' -/
def notR (o : Option (Ask × Bs)) : Option (Ask × Bs) := match o with | none => none | some (y, r) => some (Ask.mk 4 [] [] 0 [y], r)
theorem askR_not' (N : Nat) (t : Bs) : Ar.askR (N + 1) (33 :: t) = notR (Ar.askR N t) := askR_not N t
set_option maxRecDepth 20000 in
set_option maxHeartbeats 16000000 in
theorem askAt_not (N : Nat) (t : Bs) (w : World) (hN : N < 61) (hs : t.length ≤ 1999) (hA : ∀ W, Calls Tryz.prog 76 #[.string (bts t), .int .i64 (N : Int)] W (AskAtQ W (Ar.askR N t))) : Calls Tryz.prog 76 #[.string (bts (33 :: t)), .int .i64 ((N + 1 : Nat) : Int)] w (AskAtQ w (Ar.askR (N + 1) (33 :: t))) := by
  rw [askR_not']
  obtain ⟨S, hS⟩ : ∃ S, bts (33 :: t) = S := ⟨_, rfl⟩
  obtain ⟨n, hn⟩ : ∃ n, S.size = n := ⟨_, rfl⟩
  have hnl : n = t.length + 1 := by rw [← hn, ← hS, bts_size]; rfl
  have hsz : 0 < S.size := by rw [← hS, bts_size]; simp
  have hS0 : S[0]'hsz = 33 := lst_at (s := S) (by rw [← hS, lst_bts]; rfl) hsz
  have hSl : ¬ S.toList = [] := by rw [← hS, bts_toList]; simp
  have hSl2 : (S.toList == []) = false := by rw [← hS, bts_toList]; rfl
  have hext : S.extract 1 n = bts t := by
    rw [← hS, hnl]
    have := Nr.ext_drop (33 :: t) 1
    simpa using this
  have h1n : (1 : Int) ≤ (n : Int) := by omega
  obtain ⟨D, hD⟩ : ∃ D : Int, ((N + 1 : Nat) : Int) = D := ⟨_, rfl⟩
  have hD0 : ¬ D = 0 := by omega
  have hD1 : (D == 0) = false := by simpa using hD0
  have hDw : IntKind.i64.wrap (D - 1) = (N : Int) := by rw [← hD, show ((N + 1 : Nat) : Int) - 1 = (N : Int) by omega]; exact IntWalk.i64_in _ (by omega)
  obtain ⟨c, hc⟩ : ∃ c, c = w.heap.size := ⟨_, rfl⟩
  obtain ⟨W0, hW0⟩ : ∃ W, W = w.alloc (.cells #[.int .i64 0, .string ⟨#[]⟩, .string ⟨#[]⟩, .int .i64 0, .slice none 0 0] 26) := ⟨_, rfl⟩
  obtain ⟨z, hz⟩ : ∃ z, z = W0.heap.size := ⟨_, rfl⟩
  obtain ⟨W1, hW1⟩ : ∃ W, W = W0.alloc (.cells #[.int .i64 0, .string ⟨#[]⟩, .string ⟨#[]⟩, .int .i64 0, .slice none 0 0] 26) := ⟨_, rfl⟩
  have hb0 : Below w.heap.size w W0 := by rw [hW0]; exact (Below.refl _ _).alloc (Nat.le_refl _) _
  have HB : Hid (Below w.heap.size w W1) := Lib.hid (by rw [hW1]; exact hb0.alloc hb0.size _)
  have HBX : Hid (Box5 c W1) := Lib.hid (by rw [hW1]; exact (by rw [hW0]; exact Box5.top hc : Box5 c W0).but ((But.refl W0.heap.size W0).alloc _) (by rw [hW0, hc]; simp))
  have HBZ : Hid (Box5 z W1) := Lib.hid (by rw [hW1]; exact Box5.top hz)
  have HC : Hid (w.heap.size ≤ c) := Lib.hid (Nat.le_of_eq hc.symm)
  have HA := Lib.hid (hA W1)
  obtain ⟨O, hO⟩ : ∃ O, Ar.askR N t = O := ⟨_, rfl⟩
  rw [hO] at HA
  rw [hO]
  obtain ⟨P, hP⟩ : ∃ P : Option (Ask × Bs), P = notR O := ⟨_, rfl⟩
  have HP := Lib.hid hP
  rw [← hP]
  clear hP
  obtain ⟨T, hT⟩ : ∃ T, bts t = T := ⟨_, rfl⟩
  rw [hT] at HA hext
  obtain ⟨E, hE⟩ : ∃ E : Int, (N : Int) = E := ⟨_, rfl⟩
  rw [hE] at HA hDw
  rw [hS, hD]
  clear hb0 hS hs hnl hT hD hN hE hO hA
  go_enter Tryz.func76, Tryz.ntmps76
  go_upto_region 1 with fail
  rw [← hW0, ← hc]
  clear hW0 hc
  go_upto_region 2 with fail
  rw [← hW1, ← hz]
  clear hW1 hz
  have r0 := HBX.out.r0
  have r1 := HBX.out.r1
  have r2 := HBX.out.r2
  have r3 := HBX.out.r3
  have r4 := HBX.out.r4
  have q0 := HBX.out.fz 0
  have q1 := HBX.out.fz 1
  have q2 := HBX.out.fz 2
  have q3 := HBX.out.fz 3
  have q4 := HBX.out.fz 4
  have z0 := HBZ.out.r0
  have z1 := HBZ.out.r1
  have z2 := HBZ.out.r2
  have z3 := HBZ.out.r3
  have z4 := HBZ.out.r4
  have hcl := HBX.out.lt
  go_wp2_with fail
  refine Calls.mono HA.out ?_
  rintro e W2 hq
  obtain ⟨hb2, bv, x0, x1, x2, x3, xd, xl, xc, t', rfl, hq2⟩ := hq.form
  have HQ2 := Lib.hid hq2
  have HB2 := Lib.hid hb2
  have HBX2 : Hid (Box5 c W2) := Lib.hid (HBX.out.but (But.ofBelow (rb := W1.heap.size) hb2 (Nat.le_refl _)) (Nat.ne_of_lt HBX.out.lt))
  clear hq hq2 hb2
  clear r0 r1 r2 r3 r4 q0 q1 q2 q3 q4 hcl z0 z1 z2 z3 z4
  go_upto_region 10 with fail
  obtain ⟨W3, hW3⟩ : ∃ W, W = W2.alloc (.cells #[.int .i64 x0, .string x1, .string x2, .int .i64 x3, .slice xd xl xc] 26) := ⟨_, rfl⟩
  obtain ⟨d, hd⟩ : ∃ d, d = W2.heap.size := ⟨_, rfl⟩
  have hbW3 : Below W2.heap.size W2 W3 := by rw [hW3]; exact (Below.refl _ _).alloc (Nat.le_refl _) _
  have HBXW3 : Hid (Box5 c W3) := Lib.hid (HBX2.out.but (But.ofBelow (rb := d) hbW3 (Nat.le_refl _)) (Nat.ne_of_lt (by rw [hd]; exact HBX2.out.lt)))
  have bd0 : W3.cell? ⟨d, 0, none⟩ = some (.int .i64 x0) := by rw [hW3]; exact (cell_top _ _ _ _ _ hd).trans rfl
  have bd1 : W3.cell? ⟨d, 1, none⟩ = some (.string x1) := by rw [hW3]; exact (cell_top _ _ _ _ _ hd).trans rfl
  have bd2 : W3.cell? ⟨d, 2, none⟩ = some (.string x2) := by rw [hW3]; exact (cell_top _ _ _ _ _ hd).trans rfl
  have bd3 : W3.cell? ⟨d, 3, none⟩ = some (.int .i64 x3) := by rw [hW3]; exact (cell_top _ _ _ _ _ hd).trans rfl
  have bd4 : W3.cell? ⟨d, 4, none⟩ = some (.slice xd xl xc) := by rw [hW3]; exact (cell_top _ _ _ _ _ hd).trans rfl
  have hdld : d < W3.heap.size := by rw [hW3, hd]; simp
  rw [← hW3, ← hd]
  have HW3 := Lib.hid hW3
  have HDd := Lib.hid hd
  have HBW3 := Lib.hid hbW3
  clear hW3 hd hbW3
  have r0 := HBXW3.out.r0
  have r1 := HBXW3.out.r1
  have r2 := HBXW3.out.r2
  have r3 := HBXW3.out.r3
  have r4 := HBXW3.out.r4
  have q0 := HBXW3.out.fz 0
  have q1 := HBXW3.out.fz 1
  have q2 := HBXW3.out.fz 2
  have q3 := HBXW3.out.fz 3
  have q4 := HBXW3.out.fz 4
  have hcl := HBXW3.out.lt
  have hcl1 : c < W3.heap.size + 1 := Nat.lt_succ_of_lt hcl
  obtain ⟨W4, hW4⟩ : ∃ W, W3.alloc (.cells #[.int .i64 x0, .string x1, .string x2, .int .i64 x3, .slice xd xl xc] 26) = W := ⟨_, rfl⟩
  have HW4 := Lib.hid hW4
  have HBX4 : Hid (Box5 c W4) := Lib.hid (by rw [← hW4]; exact HBXW3.out.but ((But.refl W3.heap.size W3).alloc _) (Nat.ne_of_lt HBXW3.out.lt))
  clear r0 r1 r2 r3 r4 q0 q1 q2 q3 q4 hcl hcl1
  have r0 := HBX4.out.r0
  have r1 := HBX4.out.r1
  have r2 := HBX4.out.r2
  have r3 := HBX4.out.r3
  have r4 := HBX4.out.r4
  have q0 := HBX4.out.fz 0
  have q1 := HBX4.out.fz 1
  have q2 := HBX4.out.fz 2
  have q3 := HBX4.out.fz 3
  have q4 := HBX4.out.fz 4
  have hcl := HBX4.out.lt
  have hcl1 : c < W4.heap.size + 1 := Nat.lt_succ_of_lt hcl
  go_wp2_with fail
  refine bodyPost_ret (v := .tuple #[.agg #[.int .i64 4, .string ⟨#[]⟩, .string ⟨#[]⟩, .int .i64 0, .slice (some ⟨W3.heap.size, 0, none⟩) 1 1], .string t', .bool bv]) (by simp [results, Tryz.results76, go_sem, cell_set, r0, r1, r2, r3, r4, hcl, hcl1]) rfl ?_
  show AskAtQ w _ _ (five W4 c (.int .i64 4) (.string ⟨#[]⟩) (.string ⟨#[]⟩) (.int .i64 0) (.slice (some ⟨W3.heap.size, 0, none⟩) 1 1))
  rw [← HW4.out]
  have h13 : Below W1.heap.size W1 W3 := HB2.out.trans (HBW3.out.mono HB2.out.size)
  refine AskAtQ.mk' (five_below (((HB.out.trans (h13.mono HB.out.size))).alloc (Nat.le_trans HB.out.size h13.size) _) c _ _ _ _ _ HC.out) ?_
  rw [HP.out]
  have hq2 := HQ2.out
  cases O with
  | none => exact hq2
  | some p =>
    obtain ⟨y, r⟩ := p
    obtain ⟨e1, e2, hv⟩ := hq2
    exact ⟨e1, e2, tree_oneA h13.size HBX.out.lt HB.out.size (AskVP.stays (fun b h => h) HBW3.out.size (fun b _ hb => HBW3.out.block b hb) _ _ hv) _ _ _ _ _⟩
end Go.Proofs.YtkemlckmfgacdaaGreatDoor
