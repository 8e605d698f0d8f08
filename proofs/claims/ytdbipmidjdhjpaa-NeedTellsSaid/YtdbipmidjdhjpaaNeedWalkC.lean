/- The law of needs, walked, where both needs are good and the first one is something: it answers true. -/
import Derived.Test.YtdbipmidjdhjpaaNeedWalk
import Derived.Deep.DeepCutAuto
namespace Go.Proofs.Ytdbipmidjdhjpaa
open Go.ChangeShapes Go.WideShapes Go.ChangeAt Go.RowKit
set_option linter.unusedVariables false
set_option linter.unusedSimpArgs false
set_option maxRecDepth 100000 in
set_option maxHeartbeats 40000000 in
theorem law_more (a b c x y z : Int) (L : List (Int × Int × Int)) (p : Option Addr) (n cap : Nat) (w : World) (hn : n = L.length) (hmax : n ≤ 9223372036854775807) (hL : Needs w p L) (hgood : bothB a b c x y z = true) (hzero : zeroB a b c = false) :
    Calls Try.prog 7 #[.agg #[.int .i64 a, .int .i64 b, .int .i64 c], .agg #[.int .i64 x, .int .i64 y, .int .i64 z], .slice p n cap] w fun e w' => e = .returned (.bool true) ∧ Below w.heap.size w w' := by
  have HL := Lib.hid hL
  have HN := Lib.hid hn
  clear hL hn
  have HGOOD := Lib.hid hgood
  have HZERO := Lib.hid hzero
  clear hgood hzero
  go_enter Try.func7, Try.ntmps7
  go_upto_region 7 with (first
    | (go_at_call 29; refine Calls.mono (Fits_any _ _ _ _ _ _ _) ?_; rintro e w1 ⟨rfl, hb1⟩; obtain ⟨hc1, hz1⟩ := bcell hb1; have a1 : w.heap.size < w1.heap.size := (by have := hb1.size; simp at this; omega); have b1 : w.heap.size + 1 < w1.heap.size := (by have := hb1.size; simp at this; omega); have hB1 : Below w.heap.size w w1 := Below.trans (by go_grown) (hb1.mono (by simp; omega)))
    | (go_at_call 30; refine Calls.mono (nAdd_any _ _ _ _ _ _ _) ?_; rintro e w2 ⟨rfl, hb2⟩; obtain ⟨hc2, hz2⟩ := bcell hb2; have a2 : w.heap.size < w2.heap.size := (by have := hb2.size; omega); have b2 : w.heap.size + 1 < w2.heap.size := (by have := hb2.size; omega); have hB2 : Below w.heap.size w w2 := hB1.trans (hb2.mono (by omega)))
    | (go_at_call 31; refine Calls.mono (nSub_any _ _ _ _ _ _ _) ?_; rintro e w3 ⟨rfl, hb3⟩; obtain ⟨hc3, hz3⟩ := bcell hb3; have a3 : w.heap.size < w3.heap.size := (by have := hb3.size; simp at this; omega); have b3 : w.heap.size + 1 < w3.heap.size := (by have := hb3.size; simp at this; omega); have x3 : w2.heap.size < w3.heap.size := (by have := hb3.size; simp at this; omega); have hB3 : Below w.heap.size w w3 := Below.trans (by go_grown) (hb3.mono (by simp; omega)))
    | (go_at_call 32; refine Calls.mono (nTimes_any _ _ _ _ _ _ _) ?_; rintro e w4 ⟨rfl, hb4⟩; obtain ⟨hc4, hz4⟩ := bcell hb4; have a4 : w.heap.size < w4.heap.size := (by have := hb4.size; simp at this; omega); have b4 : w.heap.size + 1 < w4.heap.size := (by have := hb4.size; simp at this; omega); have x4 : w2.heap.size < w4.heap.size := (by have := hb4.size; simp at this; omega); have y4 : w3.heap.size < w4.heap.size := (by have := hb4.size; simp at this; omega); have hB4 : Below w.heap.size w w4 := Below.trans (by go_grown) (hb4.mono (by simp; omega)))
    | (go_at_call 33; refine Calls.mono (nSum_any L p n cap _ HN.out hmax (fun h => by
        obtain ⟨b, off, rfl, hb, hat⟩ := HL.out h
        exact ⟨b, off, rfl, by omega, hat.below (B := w.heap.size) hB4 hb⟩)) ?_; rintro e w5 ⟨rfl, hb5⟩; obtain ⟨hc5, hz5⟩ := bcell hb5; have a5 : w.heap.size < w5.heap.size := (by have := hb5.size; omega); have b5 : w.heap.size + 1 < w5.heap.size := (by have := hb5.size; omega); have x5 : w2.heap.size < w5.heap.size := (by have := hb5.size; omega); have y5 : w3.heap.size < w5.heap.size := (by have := hb5.size; omega); have hB5 : Below w.heap.size w w5 := hB4.trans (hb5.mono (by omega))))
  go_cut [7, 8, 9, 10, 11, 12, 13, 14, 15, 16, 17, 18] (fun v7 v8 v9 v10 v11 v12 v13 v14 v15 v16 v17 v18 W => needFacts w a b c x y z L v7 v8 v9 v10 v11 v12 v13 v14 v15 v16 v17 W ∧ v18 = .int .i64 0)
  case first =>
    go_wp2_with fail
    go_meet
    refine ⟨⟨by go_grown, rfl, rfl, rfl, rfl, rfl, rfl, rfl, _, _, _, _, rfl, rfl, rfl, rfl, by omega, by omega, by omega, by omega, by omega, by omega, ⟨⟨?_, ?_, ?_, ?_⟩, ⟨?_, ?_, ?_, ?_⟩, ⟨?_, ?_, ?_, ?_⟩, ⟨?_, ?_, ?_, ?_⟩, ⟨?_, ?_, ?_, ?_⟩, trivial⟩, by simp, ?_, ?_, ?_, ?_, ?_, ?_⟩, rfl⟩
    all_goals first
      | (simp [go_sem, hc1, hc2, hc3, hc4, hc5, a1, a2, a3, a4, a5, b1, b2, b3, b4, b5, x3, x4, x5, y4, y5]; done)
      | (simp; omega)
  case rest =>
    clear hb1 hc1 hz1 a1 b1 hB1 hb2 hc2 hz2 a2 b2 hB2 hb3 hc3 hz3 a3 b3 x3 hB3 hb4 hc4 hz4 a4 b4 x4 y4 hB4 hb5 hc5 hz5 a5 b5 x5 y5 hB5
    obtain ⟨⟨hB, rfl, rfl, rfl, rfl, rfl, rfl, rfl, i, j, s, q, rfl, rfl, rfl, rfl, hwi, hwq, hwq1, hiq, hjq, hsq, hC, hq, hQ⟩, rfl⟩ := hcut
    go_wp2_with fail
    go_loopw [18, 56] (fun v t wr => ∃ (m : Nat) (e : Int), m ≤ n ∧ t = .int .i64 m ∧ v = .int .i64 e ∧ ((e = 0 ∧ Good L m) ∨ (e = 4 ∧ checksE L = 4)) ∧ Below wc.heap.size wc wr) (fun _ t _ => n - (intOf t).toNat)
    case atStart => exact ⟨0, 0, by omega, rfl, rfl, Or.inl ⟨rfl, Good.zero L⟩, Below.refl _ _⟩
    case round =>
      obtain ⟨m, e, hm, rfl, rfl, hG, hBr⟩ := hrel
      have hBw : Below w.heap.size w wr := hB.trans (hBr.mono hB.size)
      have hsz := hBr.size
      have HC := Lib.hid hC
      have HQ := Lib.hid hQ
      clear hC hQ
      by_cases hlt : m < n
      · obtain ⟨b0, off, rfl, hb, hat⟩ := HL.out (by have := HN.out; omega)
        obtain ⟨⟨c0, m0, g0⟩, hx⟩ : ∃ x, L[m]? = some x := ⟨_, List.getElem?_eq_getElem (by have := HN.out; omega)⟩
        obtain ⟨q0, q1, q2⟩ := hat.below hBw hb m c0 m0 g0 hx
        have HX := Lib.hid hx
        have hbr : b0 < wr.heap.size := Nat.lt_of_lt_of_le hb hBw.size
        clear hat hx
        rcases hG with ⟨rfl, hG⟩ | ⟨rfl, hG⟩
        · have HG := Lib.hid hG
          clear hG
          have hEx : (needE c0 m0 g0 = 0 ∧ Good L (m + 1)) ∨ (needE c0 m0 g0 = 4 ∧ checksE L = 4) := by
            cases hg : needB c0 m0 g0 with
            | true => exact Or.inl ⟨needE_yes hg, HG.out.succ HX.out hg⟩
            | false => exact Or.inr ⟨needE_no hg, checks_bad HX.out hg⟩
          have HEX := Lib.hid hEx
          clear hEx
          go_wp2_with (go_at_call 34; refine (needFault_any _ _ _ _).mono ?_; rintro e w1 ⟨rfl, hB1⟩; have hB2 : Below wc.heap.size wc w1 := hBr.trans (Below.trans (by go_grown) (hB1.mono (by simp; have := hBr.size; omega))))
          go_roundw
          case rel => exact ⟨m + 1, _, by omega, rfl, rfl, HEX.out, hB2⟩
          case measure => simp [intOf]; omega
        · have HG := Lib.hid hG
          clear hG
          go_wp2_with fail
          go_roundw
          case rel => exact ⟨m + 1, _, by omega, rfl, rfl, Or.inr ⟨rfl, HG.out⟩, by go_grown⟩
          case measure => simp [intOf]; omega
      · have hG2 : (e = 0 ∧ allB L = true ∧ needB 0 0 0 = true ∧ sumN L = foldN (L.drop 0) 0 0 0) ∨ (e ≠ 0 ∧ sumN L = ⟨0, 0, 0, e⟩) := by
          rcases hG with ⟨rfl, hG⟩ | ⟨rfl, hG⟩
          · have hA := (show Good L L.length from (by have := HN.out; have : m = L.length := by omega
                                                      exact this ▸ hG)).all
            exact Or.inl ⟨rfl, hA.2, by decide, by simp [sumN, hA.2]⟩
          · refine Or.inr ⟨by decide, ?_⟩
            have : allB L = false := by
              cases hA : allB L with
              | false => rfl
              | true => rw [checksE, hA] at hG; simp at hG
            simp [sumN, this]
        have HG := Lib.hid hG2
        clear hG hG2
        have hq2 := (Nat.lt_of_lt_of_le hq hBr.size)
        have HQ2 := Lib.hid (Held1.below HQ.out hBr hq)
        have HC2 := Lib.hid (HC.out.below hBr)
        clear HC HQ
        go_wp2_with fail
        go_loopw [18, 67] (fun v t wr => ∃ (m : Nat) (e s1 s2 s3 : Int), m ≤ n ∧ t = .int .i64 m ∧ v = .int .i64 e ∧ Hid ((e = 0 ∧ allB L = true ∧ needB s1 s2 s3 = true ∧ sumN L = foldN (L.drop m) s1 s2 s3) ∨ (e ≠ 0 ∧ sumN L = ⟨0, 0, 0, e⟩)) ∧ Below w.heap.size w wr ∧ q < wr.heap.size ∧ Hid (Held1 q s1 s2 s3 wr) ∧ Hid (Cells [(w.heap.size, a, b, c), (w.heap.size + 1, x, y, z), (i, pk (addB a b c x y z) (a + x), pk (addB a b c x y z) (b + y), pk (addB a b c x y z) (c + z)), (j, pk (subB a b c x y z) (a - x), pk (subB a b c x y z) (b - y), pk (subB a b c x y z) (c - z)), (s, (sumN L).c, (sumN L).m, (sumN L).g)] wr)) (fun _ t _ => n - (intOf t).toNat)
        case atStart => exact ⟨0, e, 0, 0, 0, by omega, rfl, rfl, HG, hBw, hq2, HQ2, HC2⟩
        case round =>
          obtain ⟨m, e, s1, s2, s3, hm, rfl, rfl, HG, hBw, hq, HQ, HC⟩ := hrel
          have hwk : w.heap.size < wr.heap.size := by omega
          by_cases hlt : m < n
          · obtain ⟨b0, off, rfl, hb, hat⟩ := HL.out (by have := HN.out; omega)
            obtain ⟨⟨c0, m0, g0⟩, hx⟩ : ∃ x, L[m]? = some x := ⟨_, List.getElem?_eq_getElem (by have := HN.out; omega)⟩
            obtain ⟨q0, q1, q2⟩ := hat.below hBw hb m c0 m0 g0 hx
            have HX := Lib.hid hx
            have hbr : b0 < wr.heap.size := Nat.lt_of_lt_of_le hb hBw.size
            have hsz := hBw.size
            clear hat hx
            rcases HG.out with ⟨rfl, hA, hN, hS⟩ | ⟨he, hS⟩
            · have HBO := Lib.hid (show bothB s1 s2 s3 c0 m0 g0 = true from by simp [bothB, hN, allB_at hA HX.out])
              have HA := Lib.hid hA
              have HS := Lib.hid hS
              clear HG hA hN hS
              have hs' : (needE (s1 + c0) (s2 + m0) (s3 + g0) = 0 ∧ needB (s1 + c0) (s2 + m0) (s3 + g0) = true) ∨ (needE (s1 + c0) (s2 + m0) (s3 + g0) = 4 ∧ needB (s1 + c0) (s2 + m0) (s3 + g0) = false) := by
                cases hn : needB (s1 + c0) (s2 + m0) (s3 + g0) with
                | true => exact Or.inl ⟨needE_yes hn, rfl⟩
                | false => exact Or.inr ⟨needE_no hn, rfl⟩
              have HE : ∃ E, Hid (needE (s1 + c0) (s2 + m0) (s3 + g0) = E) := ⟨_, Lib.hid rfl⟩
              obtain ⟨h0, h1, h2, z0, z1, z2⟩ := HQ.out
              rcases hs' with ⟨he, hn⟩ | ⟨he, hn⟩
              · have HE := Lib.hid he
                have HI := Lib.hid (HS.out.trans (foldN_yes HX.out hn))
                have HNN := Lib.hid hn
                clear he hn
                go_wp2_with (first
                  | (go_at_call 35; refine (needPlus_any _ _ _ _ _ _ _ _ HBO.out (Or.inl rfl)).mono ?_; rintro e w1 ⟨rfl, hb1⟩; simp only [Int.one_mul]; obtain ⟨hc1, hz1⟩ := bcell hb1; have a1 : q < w1.heap.size := (by have := hb1.size; simp at this; omega); have hB1 : Below wr.heap.size wr w1 := Below.trans (by go_grown) (hb1.mono (by simp)); have HC1 := Lib.hid ((HC.out.alloc _).below hb1); obtain ⟨k0, k1, k2, y0, y1, y2⟩ := HQ.out.below hB1 hq)
                  | (go_at_call 34; refine (needFault_any _ _ _ _).mono ?_; rintro e w2 ⟨rfl, hb2⟩; rw [HE.out]))
                go_roundw
                case rel =>
                  have hB2 : Below w.heap.size w w2 := hBw.trans ((hB1.mono hsz).trans (Below.trans (by go_grown) (hb2.mono (by simp; have := hB1.size; omega))))
                  refine ⟨m + 1, 0, _, _, _, by omega, rfl, rfl, Lib.hid (Or.inl ⟨rfl, HA.out, HNN.out, HI.out⟩), hB2, by have := hb2.size; simp at this; omega, Lib.hid (Held1.below ?_ hb2 (by simpa using a1)), Lib.hid (Cells.below (Cells.set (Cells.set (Cells.set HC1.out ?_) ?_) ?_) hb2)⟩
                  · exact ⟨by simp [cell_set, go_sem, k0], by simp [cell_set, go_sem, k1], by simp [cell_set, go_sem, k2], by simp [go_sem, y0], by simp [go_sem, y1], by simp [go_sem, y2]⟩
                  all_goals
                    intro e he
                    simp at he
                    rcases he with rfl | rfl | rfl | rfl | rfl <;> simp <;> omega
                case measure => simp [intOf]; omega
              · have HE := Lib.hid he
                have HI := Lib.hid (HS.out.trans (foldN_no HX.out hn))
                clear he hn
                go_wp2_with (first
                  | (go_at_call 35; refine (needPlus_any _ _ _ _ _ _ _ _ HBO.out (Or.inl rfl)).mono ?_; rintro e w1 ⟨rfl, hb1⟩; simp only [Int.one_mul]; obtain ⟨hc1, hz1⟩ := bcell hb1; have a1 : q < w1.heap.size := (by have := hb1.size; simp at this; omega); have hB1 : Below wr.heap.size wr w1 := Below.trans (by go_grown) (hb1.mono (by simp)); have HC1 := Lib.hid ((HC.out.alloc _).below hb1); obtain ⟨k0, k1, k2, y0, y1, y2⟩ := HQ.out.below hB1 hq)
                  | (go_at_call 34; refine (needFault_any _ _ _ _).mono ?_; rintro e w2 ⟨rfl, hb2⟩; rw [HE.out]))
                go_roundw
                case rel =>
                  have hB2 : Below w.heap.size w w2 := hBw.trans ((hB1.mono hsz).trans (Below.trans (by go_grown) (hb2.mono (by simp; have := hB1.size; omega))))
                  refine ⟨m + 1, 2, _, _, _, by omega, rfl, rfl, Lib.hid (Or.inr ⟨by decide, HI.out⟩), hB2, by have := hb2.size; simp at this; omega, Lib.hid (Held1.below (a := s1 + c0) (b := s2 + m0) (c := s3 + g0) ?_ hb2 (by simpa using a1)), Lib.hid (Cells.below (Cells.set (Cells.set (Cells.set HC1.out ?_) ?_) ?_) hb2)⟩
                  · exact ⟨by simp [cell_set, go_sem, k0], by simp [cell_set, go_sem, k1], by simp [cell_set, go_sem, k2], by simp [go_sem, y0], by simp [go_sem, y1], by simp [go_sem, y2]⟩
                  all_goals
                    intro e he
                    simp at he
                    rcases he with rfl | rfl | rfl | rfl | rfl <;> simp <;> omega
                case measure => simp [intOf]; omega
            · have HS := Lib.hid hS
              clear HG hS
              go_wp2_with fail
              go_roundw
              case rel => exact ⟨m + 1, e, s1, s2, s3, by omega, rfl, rfl, Lib.hid (Or.inr ⟨he, HS.out⟩), by go_grown, by simp; omega, Lib.hid (HQ.out.below (B := wr.heap.size) (by go_grown) hq), Lib.hid (HC.out.alloc _)⟩
              case measure => simp [intOf]; omega
          · obtain ⟨h0, h1, h2, z0, z1, z2⟩ := HQ.out
            have hml : ¬ m < L.length := by have := HN.out; omega
            have HE := Lib.hid (fun x y z => @foldN_end L m x y z hml)
            clear hml
            go_upto_if 81 with fail
            go_cut [18] (fun v W => v = .int .i64 (sumN L).e ∧ Below w.heap.size w W ∧ Cells [(w.heap.size, a, b, c), (w.heap.size + 1, x, y, z), (i, pk (addB a b c x y z) (a + x), pk (addB a b c x y z) (b + y), pk (addB a b c x y z) (c + z)), (j, pk (subB a b c x y z) (a - x), pk (subB a b c x y z) (b - y), pk (subB a b c x y z) (c - z)), (s, (sumN L).c, (sumN L).m, (sumN L).g), (q, (sumN L).c, (sumN L).m, (sumN L).g)] W)
            case first =>
              rcases HG.out with ⟨rfl, hA, hN, hS⟩ | ⟨he, hS⟩
              · have HS := Lib.hid (hS.trans (HE.out _ _ _))
                clear HG hA hN hS
                go_wp2_with fail
                go_meet
                rw [HS.out]
                refine ⟨rfl, hBw, ?_⟩
                have := HC.out
                rw [HS.out] at this
                exact ⟨this.1, this.2.1, this.2.2.1, this.2.2.2.1, this.2.2.2.2.1, ⟨hq, h0, h1, h2⟩, trivial⟩
              · have HS := Lib.hid hS
                clear HG hS
                go_wp2_with fail
                go_meet
                rw [HS.out]
                refine ⟨rfl, by go_grown, ?_⟩
                have := Cells.set (p := ⟨q, 2, none⟩) (v := .int .i64 0) (Cells.set (p := ⟨q, 1, none⟩) (v := .int .i64 0) (Cells.set (p := ⟨q, 0, none⟩) (v := .int .i64 0) HC.out ?_) ?_) ?_
                · rw [HS.out] at this
                  exact ⟨this.1, this.2.1, this.2.2.1, this.2.2.2.1, this.2.2.2.2.1, ⟨by simpa using hq, by simp [cell_set, go_sem, h0], by simp [cell_set, go_sem, h1], by simp [cell_set, go_sem, h2]⟩, trivial⟩
                all_goals
                  intro e he
                  simp at he
                  rcases he with rfl | rfl | rfl | rfl | rfl <;> simp <;> omega
            case rest =>
              clear hBw hq HQ HC h0 h1 h2 z0 z1 z2 HG HE hB hBr hsz HC2 HQ2 hq2
              obtain ⟨rfl, hB, hC⟩ := hcut
              have hk : Kept w [(w.heap.size, a, b, c), (w.heap.size + 1, x, y, z), (i, pk (addB a b c x y z) (a + x), pk (addB a b c x y z) (b + y), pk (addB a b c x y z) (c + z)), (j, pk (subB a b c x y z) (a - x), pk (subB a b c x y z) (b - y), pk (subB a b c x y z) (c - z)), (s, (sumN L).c, (sumN L).m, (sumN L).g), (q, (sumN L).c, (sumN L).m, (sumN L).g)] wc := ⟨hB, hC⟩
              have HK := Lib.hid hk
              clear hB
              go_upto_region 24 with fail
              go_cut [97] (fun v W => v = .bool false ∧ Kept w [(w.heap.size, a, b, c), (w.heap.size + 1, x, y, z), (i, pk (addB a b c x y z) (a + x), pk (addB a b c x y z) (b + y), pk (addB a b c x y z) (c + z)), (j, pk (subB a b c x y z) (a - x), pk (subB a b c x y z) (b - y), pk (subB a b c x y z) (c - z)), (s, (sumN L).c, (sumN L).m, (sumN L).g), (q, (sumN L).c, (sumN L).m, (sumN L).g)] W)
              case first =>
                as_aux_lemma =>
                  obtain ⟨d1, d2, d3, d4, d5, d6, d7, d8, d9, d10, d11, d12, d13, d14, d15⟩ := hC.shut3
                  clear hC
                  go_region_held3 (fun W => W.cell? ⟨w.heap.size, 0, none⟩ = some (.int .i64 a) ∧ W.cell? ⟨w.heap.size, 1, none⟩ = some (.int .i64 b) ∧ W.cell? ⟨w.heap.size, 2, none⟩ = some (.int .i64 c) ∧ W.cell? ⟨s, 0, none⟩ = some (.int .i64 (sumN L).c) ∧ W.cell? ⟨s, 1, none⟩ = some (.int .i64 (sumN L).m) ∧ W.cell? ⟨s, 2, none⟩ = some (.int .i64 (sumN L).g) ∧ W.cell? ⟨q, 0, none⟩ = some (.int .i64 (sumN L).c) ∧ W.cell? ⟨q, 1, none⟩ = some (.int .i64 (sumN L).m) ∧ W.cell? ⟨q, 2, none⟩ = some (.int .i64 (sumN L).g))
                    ((refine Kept.some3 (show Kept w [(w.heap.size, a, b, c), (w.heap.size + 1, x, y, z), (i, pk (addB a b c x y z) (a + x), pk (addB a b c x y z) (b + y), pk (addB a b c x y z) (c + z)), (j, pk (subB a b c x y z) (a - x), pk (subB a b c x y z) (b - y), pk (subB a b c x y z) (c - z)), (s, (sumN L).c, (sumN L).m, (sumN L).g), (q, (sumN L).c, (sumN L).m, (sumN L).g)] _ from ?_); repeat (first | with_reducible exact hk | with_reducible apply Kept.drew | with_reducible apply Kept.alloc | (with_reducible refine Kept.below ?_ (by assumption)))))
                    (first
                      | (go_at_call 36; refine Calls.mono (Check_any _ _ _ _) ?_; rintro e w1 ⟨rfl, hb1⟩)
                      | (go_at_call 34; refine Calls.mono (needFault_any _ _ _ _) ?_; rintro e w2 ⟨rfl, hb2⟩))
                  all_goals
                    clear d1 d2 d3 d4 d5 d6 d7 d8 d9 d10 d11 d12 d13 d14 d15
                    go_wp2_with fail
                    go_meet
                    refine ⟨by simp, ?_⟩
                    (repeat (first | with_reducible exact hk | with_reducible apply Kept.drew | with_reducible apply Kept.alloc | (with_reducible refine Kept.below ?_ (by assumption))))
              case rest =>
                obtain ⟨rfl, hk⟩ := hcut
                clear HK hC
                have hbb := HGOOD.out
                have hbb' := hbb
                simp only [bothB, Bool.and_eq_true] at hbb'
                have H1 := Lib.hid (needE_yes hbb'.1)
                have H2 := Lib.hid (needE_yes hbb'.2)
                have HBB := Lib.hid hbb
                have e8 : bothE a b c x y z = 0 := by simp [bothE, hbb]
                obtain ⟨⟨l0, a0, a1, a2⟩, ⟨l1, b0, b1, b2⟩, -⟩ := hk.2
                simp only [hbb, Bool.true_and, e8]
                clear hbb hbb' e8
                go_upto_region 34 with (first
                  | (go_at_call_of 34 a; refine Calls.mono (needFault_any a b c wc) ?_; rintro e w1 ⟨rfl, hb1⟩; rw [H1.out]; have hk1 := hk.below hb1; obtain ⟨⟨l0', a0', a1', a2'⟩, ⟨l1', b0', b1', b2'⟩, -⟩ := hk1.2)
                  | (go_at_call_of 34 x; refine Calls.mono (needFault_any x y z w1) ?_; rintro e w2 ⟨rfl, hb2⟩; rw [H2.out]; have hk2 := hk1.below hb2; obtain ⟨⟨l0'', a0'', a1'', a2''⟩, ⟨l1'', b0'', b1'', b2''⟩, -⟩ := hk2.2)
                  | (go_at_call 37; refine Calls.mono (needFits_any _ _ _ _ _ _ _) ?_; rintro e w3 ⟨rfl, hb3⟩))
                have hk3 : Kept w ((w2.heap.size, 0, 0, 0) :: [(w.heap.size, a, b, c), (w.heap.size + 1, x, y, z), (i, pk (addB a b c x y z) (a + x), pk (addB a b c x y z) (b + y), pk (addB a b c x y z) (c + z)), (j, pk (subB a b c x y z) (a - x), pk (subB a b c x y z) (b - y), pk (subB a b c x y z) (c - z)), (s, (sumN L).c, (sumN L).m, (sumN L).g), (q, (sumN L).c, (sumN L).m, (sumN L).g)]) w3 := (hk2.cons_new).below hb3
                clear a0 a1 a2 b0 b1 b2 a0' a1' a2' b0' b1' b2' a0'' a1'' a2'' b0'' b1'' b2'' hb1 hb2 hb3 hk hk1 hk2 l0 l1 l0' l1' l0'' l1''
                generalize w2.heap.size = N at *
                obtain ⟨⟨n9, n0, n1, n2⟩, ⟨a9, a0, a1, a2⟩, ⟨b9, b0, b1, b2⟩, ⟨i9, i0, i1, i2⟩, ⟨j9, j0, j1, j2⟩, -⟩ := hk3.2
                go_upto_if 157 with (first
                  | (go_at_call 35; refine Calls.mono (needPlus_any a b c x y z 1 _ HBB.out (Or.inl rfl)) ?_; rintro e w4 ⟨rfl, hb4⟩; simp only [Int.one_mul]; have hk4 := hk3.below hb4)
                  | (go_at_call 34; refine Calls.mono (needFault_any _ _ _ _) ?_; rintro e w5 ⟨rfl, hb5⟩; have hk5 := (hk4.cons_new).below hb5))
                clear n9 n0 n1 n2 a9 a0 a1 a2 b9 b0 b1 b2 i9 i0 i1 i2 j9 j0 j1 j2
                go_cut [10] (fun _ W => Kept w ((N, 0, 0, 0) :: [(w.heap.size, a, b, c), (w.heap.size + 1, x, y, z), (i, pk (addB a b c x y z) (a + x), pk (addB a b c x y z) (b + y), pk (addB a b c x y z) (c + z)), (j, pk (subB a b c x y z) (a - x), pk (subB a b c x y z) (b - y), pk (subB a b c x y z) (c - z)), (s, (sumN L).c, (sumN L).m, (sumN L).g), (q, (sumN L).c, (sumN L).m, (sumN L).g)]) W)
                case first =>
                  have HK5 := Lib.hid hk5
                  obtain ⟨⟨m9, m0, m1, m2⟩, ⟨n9, n0, n1, n2⟩, ⟨a9, a0, a1, a2⟩, ⟨b9, b0, b1, b2⟩, ⟨i9, i0, i1, i2⟩, -⟩ := hk5.2
                  cases hp : needB (a + x) (b + y) (c + z) with
                  | true =>
                    obtain ⟨hadd, hae⟩ := addE_yes HBB.out hp
                    rw [hadd, pk_t] at i0 i1 i2
                    have hne := needE_yes hp
                    simp only [hae, hne]
                    clear hadd hae hp hne
                    go_wp2_with fail
                    go_meet
                    exact ⟨HK5.out.1, HK5.out.2.2⟩
                  | false =>
                    have hadd := addB_no hp
                    have hae := addE_no HBB.out hp
                    rw [hadd, pk_f] at i0 i1 i2
                    have hne := needE_no hp
                    simp only [hae, hne]
                    clear hadd hae hp hne
                    go_wp2_with fail
                    go_meet
                    exact ⟨HK5.out.1, HK5.out.2.2⟩
                case rest =>
                  have hk6 := hcut
                  clear hcut
                  clear hk3 hb4 hk4 hb5 hk5
                  obtain ⟨⟨n9, n0, n1, n2⟩, ⟨a9, a0, a1, a2⟩, ⟨b9, b0, b1, b2⟩, ⟨i9, i0, i1, i2⟩, ⟨j9, j0, j1, j2⟩, -⟩ := hk6.2
                  go_upto_if 175 with (first
                    | (go_at_call 37; refine Calls.mono (needFits_any x y z a b c _) ?_; rintro e w7 ⟨rfl, hb7⟩; have hk7 := hk6.below hb7))
                  clear n9 n0 n1 n2 a9 a0 a1 a2 b9 b0 b1 b2 i9 i0 i1 i2 j9 j0 j1 j2
                  go_cut [12] (fun _ W => Kept w ((N, 0, 0, 0) :: [(w.heap.size, a, b, c), (w.heap.size + 1, x, y, z), (i, pk (addB a b c x y z) (a + x), pk (addB a b c x y z) (b + y), pk (addB a b c x y z) (c + z)), (j, pk (subB a b c x y z) (a - x), pk (subB a b c x y z) (b - y), pk (subB a b c x y z) (c - z)), (s, (sumN L).c, (sumN L).m, (sumN L).g), (q, (sumN L).c, (sumN L).m, (sumN L).g)]) W)
                  case first =>
                    have hk := hk7
                    clear hk6 hb7 hk7
                    obtain ⟨⟨n9, n0, n1, n2⟩, ⟨a9, a0, a1, a2⟩, ⟨b9, b0, b1, b2⟩, ⟨i9, i0, i1, i2⟩, ⟨j9, j0, j1, j2⟩, -⟩ := id hk.2
                    cases hf : fitsB x y z a b c with
                    | false =>
                      have HK7 := Lib.hid hk
                      obtain ⟨hsub, hse⟩ := subB_no HBB.out hf
                      rw [hsub, pk_f] at j0 j1 j2
                      simp only [hse]
                      clear hsub hse hf hk
                      go_wp2_with fail
                      go_meet
                      exact HK7.out
                    | true =>
                      as_aux_lemma =>
                        obtain ⟨hsub, hse⟩ := subB_yes HBB.out hf
                        rw [hsub, pk_t] at j0 j1 j2
                        simp only [hse]
                        have hkj := hk
                        rw [hsub, pk_t, pk_t, pk_t] at hkj
                        have HSU := Lib.hid hsub
                        clear hsub hse hf hk
                        have hm1 : a + -1 * x = a - x := by omega
                        have hm2 : b + -1 * y = b - y := by omega
                        have hm3 : c + -1 * z = c - z := by omega
                        go_upto_region 43 with fail
                        go_region_held3 (fun W => W.cell? ⟨w.heap.size, 0, none⟩ = some (.int .i64 a) ∧ W.cell? ⟨w.heap.size, 1, none⟩ = some (.int .i64 b) ∧ W.cell? ⟨w.heap.size, 2, none⟩ = some (.int .i64 c) ∧ W.cell? ⟨w.heap.size + 1, 0, none⟩ = some (.int .i64 x) ∧ W.cell? ⟨w.heap.size + 1, 1, none⟩ = some (.int .i64 y) ∧ W.cell? ⟨w.heap.size + 1, 2, none⟩ = some (.int .i64 z) ∧ W.cell? ⟨j, 0, none⟩ = some (.int .i64 (a - x)) ∧ W.cell? ⟨j, 1, none⟩ = some (.int .i64 (b - y)) ∧ W.cell? ⟨j, 2, none⟩ = some (.int .i64 (c - z)))
                          ((refine Kept.jab (show Kept w ((N, 0, 0, 0) :: (w.heap.size, a, b, c) :: (w.heap.size + 1, x, y, z) :: (i, pk (addB a b c x y z) (a + x), pk (addB a b c x y z) (b + y), pk (addB a b c x y z) (c + z)) :: (j, a - x, b - y, c - z) :: [(s, (sumN L).c, (sumN L).m, (sumN L).g), (q, (sumN L).c, (sumN L).m, (sumN L).g)]) _ from ?_); repeat (first | with_reducible exact hkj | with_reducible apply Kept.drew | with_reducible apply Kept.alloc | (with_reducible refine Kept.below ?_ (by assumption)))))
                          (first
                            | (go_at_call 35; refine Calls.mono (needPlus_any a b c x y z (-1) _ HBB.out (Or.inr rfl)) ?_; rintro e w8 ⟨rfl, hb8⟩; simp only [hm1, hm2, hm3]))
                        all_goals
                          clear n9 n0 n1 n2 a9 a0 a1 a2 b9 b0 b1 b2 i9 i0 i1 i2 j9 j0 j1 j2
                          go_wp2_with fail
                          go_meet
                          rw [HSU.out, pk_t, pk_t, pk_t]
                          (repeat (first | with_reducible exact hkj | with_reducible apply Kept.drew | with_reducible apply Kept.alloc | (with_reducible refine Kept.below ?_ (by assumption))))
                  case rest =>
                    have hk8 := hcut
                    clear hcut hk6 hb7 hk7
                    obtain ⟨⟨n9, n0, n1, n2⟩, ⟨a9, a0, a1, a2⟩, ⟨b9, b0, b1, b2⟩, -⟩ := id hk8.2
                    have hbb := HBB.out
                    simp only [bothB, Bool.and_eq_true] at hbb
                    obtain ⟨⟨r1, r2⟩, ⟨r3, r4⟩, r5, r6⟩ := needB_yes hbb.1
                    obtain ⟨⟨s1, s2⟩, ⟨s3, s4⟩, s5, s6⟩ := needB_yes hbb.2
                    clear hbb
                    have hz := HZERO.out
                    have hz' : ¬ (a = 0 ∧ b = 0 ∧ c = 0) := by simpa [zeroB] using hz
                    obtain ⟨t1, t2, t3, t4⟩ := tim3_facts r1 r3 r5 ⟨s1, s2⟩ ⟨s3, s4⟩ ⟨s5, s6⟩ hz'
                    have htv : timesV a b c x y z = tim3 a b c x y z := by simp [timesV, HBB.out, hz]
                    have hte : timesE a b c x y z = 0 := by simp [timesE, HBB.out, hz]
                    have HZ := Lib.hid hz'
                    simp only [htv, hte]
                    clear htv hte hz hz'
                    have HT3 := Lib.hid t3
                    have HT4 := Lib.hid t4
                    clear t3 t4
                    have hT : ∃ T, T = tim3 a b c x y z := ⟨_, rfl⟩
                    obtain ⟨T, hT⟩ := hT
                    rw [← hT] at t1 t2 HT3 HT4
                    rw [← hT]
                    clear hT
                    go_upto_if 194 with fail
                    · exact absurd ⟨by assumption, by assumption, by assumption⟩ HZ.out
                    · rename_i h1 h2 h3
                      clear h1 h2 h3
                      go_wp2_with (go_at_call 38; refine Calls.mono (times_any a b c x y z _ _ HBB.out) ?_; first
                        | (rintro e wt ⟨rfl, hbt⟩; rw [HT3.out]; have hk9 := hk8.below hbt; obtain ⟨⟨n9', n0', n1', n2'⟩, ⟨a9', a0', a1', a2'⟩, ⟨b9', b0', b1', b2'⟩, -⟩ := id hk9.2)
                        | (rintro e wu ⟨rfl, hbu⟩; rw [HT4.out]; have hk10 := hk9.below hbu))
                      go_ret
                      exact ⟨ret_bool rfl, hk10.1⟩
                    · rename_i h1 h2
                      clear h1 h2
                      go_wp2_with (go_at_call 38; refine Calls.mono (times_any a b c x y z _ _ HBB.out) ?_; first
                        | (rintro e wt ⟨rfl, hbt⟩; rw [HT3.out]; have hk9 := hk8.below hbt; obtain ⟨⟨n9', n0', n1', n2'⟩, ⟨a9', a0', a1', a2'⟩, ⟨b9', b0', b1', b2'⟩, -⟩ := id hk9.2)
                        | (rintro e wu ⟨rfl, hbu⟩; rw [HT4.out]; have hk10 := hk9.below hbu))
                      go_ret
                      exact ⟨ret_bool rfl, hk10.1⟩
                    · rename_i h1
                      clear h1
                      go_wp2_with (go_at_call 38; refine Calls.mono (times_any a b c x y z _ _ HBB.out) ?_; first
                        | (rintro e wt ⟨rfl, hbt⟩; rw [HT3.out]; have hk9 := hk8.below hbt; obtain ⟨⟨n9', n0', n1', n2'⟩, ⟨a9', a0', a1', a2'⟩, ⟨b9', b0', b1', b2'⟩, -⟩ := id hk9.2)
                        | (rintro e wu ⟨rfl, hbu⟩; rw [HT4.out]; have hk10 := hk9.below hbu))
                      go_ret
                      exact ⟨ret_bool rfl, hk10.1⟩
end Go.Proofs.Ytdbipmidjdhjpaa
