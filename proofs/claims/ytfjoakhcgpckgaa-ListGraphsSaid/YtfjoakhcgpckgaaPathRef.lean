/- Contracts: the document's fault and comparison of plans; is an edge in a row (slices.Contains); Way at a fault. -/
import Derived.Test.YtfjoakhcgpckgaaPathWay
import Derived.Test.YtfjoakhcgpckgaaPathPlan
namespace Go.Proofs.Ytfjoakhcgpckgaa
open Go.ChangeShapes Go.WideShapes Go.ChangeAt Go.RowKit
set_option linter.unusedVariables false
open Gr (El Tm)
/-- two rows of the same numbers are one -/
theorem sameNum_yes (xs : List Int) (a1 a2 : Option Addr) (n1 c1 n2 c2 : Nat) (w : World) (h1 : n1 = xs.length) (h2 : n2 = xs.length) (hm : xs.length ≤ 9223372036854775807) (hA : Vals w a1 (ints xs)) (hB : Vals w a2 (ints xs)) :
    Calls Try.prog 119 #[.slice a1 n1 c1, .slice a2 n2 c2] w fun e w' => e = .returned (.bool true) ∧ Below w.heap.size w w' := by
  have HA := Lib.hid hA
  have HB := Lib.hid hB
  have HN := Lib.hid h1
  obtain rfl : n1 = n2 := by omega
  have hmax : n1 ≤ 9223372036854775807 := by omega
  clear hA hB h1 h2 hm
  have hnb : ((n1 : Int) != n1) = false := by simp
  go_enter Try.func119, Try.ntmps119
  go_wp2_with fail
  go_loopw [13] (fun x wr => ∃ i : Nat, i ≤ n1 ∧ x = .int .i64 i ∧ Below w.heap.size w wr) (fun x _ => n1 - (intOf x).toNat)
  case atStart => exact ⟨0, by omega, rfl, Below.refl _ _⟩
  case round =>
    obtain ⟨i, hi, rfl, hW⟩ := hrel
    by_cases hin : i < n1
    · obtain ⟨b1, o1, rfl, hb1, hc1⟩ := HA.out (by simp [ints]; have := HN.out; omega)
      obtain ⟨b2, o2, rfl, hb2, hc2⟩ := HB.out (by simp [ints]; have := HN.out; omega)
      obtain ⟨x, hx⟩ : ∃ p, xs[i]? = some p := ⟨_, List.getElem?_eq_getElem (by have := HN.out; omega)⟩
      have q1 := (hW.cell (p := ⟨b1, o1 + i, none⟩) hb1).trans (hc1 i (.int .i64 x) (by simp [ints, hx]))
      have q3 := (hW.cell (p := ⟨b2, o2 + i, none⟩) hb2).trans (hc2 i (.int .i64 x) (by simp [ints, hx]))
      have hi1 : (0 : Int) ≤ (i : Int) := by omega
      have hi2 : (i : Int) < (n1 : Int) := by omega
      have hx1 : (x != x) = false := by simp
      clear hc1 hc2 hx
      go_wp2_with fail
      go_quiet (fail)
      go_wp2_with fail
      go_roundw
      case rel => exact ⟨i + 1, by omega, rfl, by refine below_drewN ?_ _; exact hW⟩
      case measure => simp [intOf]; omega
    · go_wp2_with fail
      go_ret
      exact ⟨rfl, hW⟩
/-- two plans of the same numbers are one -/
theorem samePlan_yes (xs ys : List Int) (a1 a2 b1 b2 : Option Addr) (n1 c1 n2 c2 m1 d1 m2 d2 : Nat) (S : Int) (w : World) (h1 : n1 = xs.length) (h2 : n2 = xs.length) (g1 : m1 = ys.length) (g2 : m2 = ys.length) (hm : xs.length ≤ 9223372036854775807) (hm2 : ys.length ≤ 9223372036854775807)
    (hA : Vals w a1 (ints xs)) (hB : Vals w a2 (ints xs)) (hC : Vals w b1 (ints ys)) (hD : Vals w b2 (ints ys)) :
    Calls Try.prog 32 #[.agg #[.slice a1 n1 c1, .slice b1 m1 d1, .int .i64 S], .agg #[.slice a2 n2 c2, .slice b2 m2 d2, .int .i64 S]] w fun e w' => e = .returned (.bool true) ∧ Below w.heap.size w w' := by
  have HA := Lib.hid hA
  have HB := Lib.hid hB
  have HC := Lib.hid hC
  have HD := Lib.hid hD
  have H1 := Lib.hid h1
  have H2 := Lib.hid h2
  have G1 := Lib.hid g1
  have G2 := Lib.hid g2
  clear hA hB hC hD h1 h2 g1 g2
  go_enter Try.func32, Try.ntmps32
  have hbW : Below w.heap.size w ((w.alloc (.cells #[.slice a1 n1 c1, .slice b1 m1 d1, .int .i64 S] 55)).alloc (.cells #[.slice a2 n2 c2, .slice b2 m2 d2, .int .i64 S] 55)) := ((Below.refl _ _).alloc (Nat.le_refl _) _).alloc (by simp) _
  have HA2 := Lib.hid (HA.out.below hbW (Nat.le_refl _))
  have HB2 := Lib.hid (HB.out.below hbW (Nat.le_refl _))
  have HC2 := Lib.hid (HC.out.below hbW (Nat.le_refl _))
  have HD2 := Lib.hid (HD.out.below hbW (Nat.le_refl _))
  have HBW := Lib.hid hbW
  clear hbW
  have HP1 := Lib.hid (show ((w.alloc (.cells #[.slice a1 n1 c1, .slice b1 m1 d1, .int .i64 S] 55)).alloc (.cells #[.slice a2 n2 c2, .slice b2 m2 d2, .int .i64 S] 55)).cell? ⟨w.heap.size, 1, none⟩ = some (.slice b1 m1 d1) from by simp [World.cell?_alloc2_first])
  have HP2 := Lib.hid (show ((w.alloc (.cells #[.slice a1 n1 c1, .slice b1 m1 d1, .int .i64 S] 55)).alloc (.cells #[.slice a2 n2 c2, .slice b2 m2 d2, .int .i64 S] 55)).cell? ⟨w.heap.size + 1, 1, none⟩ = some (.slice b2 m2 d2) from by simp [World.cell?_alloc2_new])
  have hSS : (S == S) = true := by simp
  go_wp2_with (first
    | (go_at_call 119; (with_reducible refine Calls.mono (sameNum_yes xs a1 a2 _ _ _ _ _ H1.out H2.out hm HA2.out HB2.out) ?_); rintro e w1 ⟨rfl, hB1⟩; have HB1 := Lib.hid hB1; have s1 := hB1.size; simp only [World.size_alloc] at s1; have c1 := (hB1.cell (p := ⟨w.heap.size, 1, none⟩) (by simp; omega)).trans HP1.out; have c2 := (hB1.cell (p := ⟨w.heap.size + 1, 1, none⟩) (by simp)).trans HP2.out)
    | (go_at_call 119; (with_reducible refine Calls.mono (sameNum_yes ys b1 b2 _ _ _ _ _ G1.out G2.out hm2 (HC2.out.below HB1.out (Nat.le_refl _)) (HD2.out.below HB1.out (Nat.le_refl _))) ?_); rintro e w2 ⟨rfl, hB2⟩))
  go_ret
  exact ⟨rfl, HBW.out.trans ((hB1.trans (hB2.mono hB1.size)).mono HBW.out.size)⟩
set_option maxHeartbeats 4000000 in
theorem tFault_any (z : Int) (L : El) (D : List Int) (a b : Option Addr) (l cap m cap2 : Nat) (w : World) (hn : l = L.length) (hmax : l ≤ 9223372036854775807) (hL : Edges w a L) (hm : m = D.length) (hmax2 : m ≤ 9223372036854775807) (hD : Vals w b (ints D)) :
    Calls Try.prog 18 #[.int .i64 z, .slice a l cap, .slice b m cap2] w fun e w' => e = .returned (.int .i64 (timesE z L D)) ∧ Below w.heap.size w w' := by
  have HL := Lib.hid hL
  have HN := Lib.hid hn
  have HD := Lib.hid hD
  have HM := Lib.hid hm
  clear hL hn hD hm
  by_cases hg : graphE z z L = 0
  · obtain ⟨z0, z1, _, _, g2, g3⟩ := graphE_good hg
    obtain ⟨n, rfl⟩ := Int.eq_ofNat_of_zero_le z0
    have hgb : (graphE n n L != 0) = false := by simp [hg]
    have HG := Lib.hid hg
    have HO := Lib.hid (okG g3)
    clear hg g3
    by_cases hl : m = n
    · subst hl
      have hlb : ((m : Int) != m) = false := by simp
      go_enter Try.func18, Try.ntmps18
      go_wp2_with (go_at_call 108; refine Calls.mono (gFault_any m m L _ _ _ _ HN.out hmax HL.out) ?_; rintro e w1 ⟨rfl, hB1⟩; have HB1 := Lib.hid hB1)
      go_loopw [23] (fun x wr => ∃ i : Nat, i ≤ m ∧ x = .int .i64 i ∧ Hid (GoodD D i) ∧ Below w.heap.size w wr) (fun x _ => m - (intOf x).toNat)
      case atStart => exact ⟨0, by omega, rfl, Lib.hid (fun i x h => absurd h (by omega)), HB1.out⟩
      case round =>
        obtain ⟨i, hi, rfl, HGD, hB⟩ := hrel
        have hsz := hB.size
        by_cases hin : i < m
        · obtain ⟨b1, o1, rfl, hb1, hc1⟩ := HD.out (by simp [ints]; have := HM.out; omega)
          obtain ⟨x, hx⟩ : ∃ p, D[i]? = some p := ⟨_, List.getElem?_eq_getElem (by have := HM.out; omega)⟩
          have q1 := (hB.cell (p := ⟨b1, o1 + i, none⟩) hb1).trans (hc1 i (.int .i64 x) (by simp [ints, hx]))
          have hb1r : b1 < wr.heap.size := by omega
          have HX := Lib.hid hx
          clear hc1 hx
          by_cases hx0 : x < 0
          · have hx0b : decide (x < 0) = true := by simp [hx0]
            have HV := Lib.hid (timesE_d HG.out HM.out.symm (okD_bad HX.out (by omega)))
            go_wp2_with fail
            go_ret
            exact ⟨by rw [HV.out]; rfl, hB⟩
          · have hx0b : decide (x < 0) = false := by simp [hx0]
            by_cases hx1 : 1000000000 < x
            · have hx1b : decide (1000000000 < x) = true := by simp [hx1]
              have HV := Lib.hid (timesE_d HG.out HM.out.symm (okD_bad HX.out (by omega)))
              go_wp2_with fail
              go_ret
              exact ⟨by rw [HV.out]; rfl, hB⟩
            · have hx1b : decide (1000000000 < x) = false := by simp [hx1]
              have HG2 : Hid (GoodD D (i + 1)) := Lib.hid fun j y hj hy => by
                by_cases e : j = i
                · subst e; rw [HX.out] at hy; cases hy; omega
                · exact HGD.out j y (by omega) hy
              go_wp2_with fail
              go_roundw
              case rel => exact ⟨i + 1, by omega, rfl, HG2, hB⟩
              case measure => simp [intOf]; omega
        · have HOD := Lib.hid (show okD D = true from GoodD.all (by have := HM.out; rw [show D.length = i by omega]; exact HGD.out))
          by_cases hk : Gr.knot m L = []
          · have HV := Lib.hid (timesE_ok HG.out HM.out.symm HOD.out hk)
            have HK := Lib.hid hk
            clear hk
            go_wp2_with (go_at_call 109; refine Calls.mono (Knotted_any m L _ _ _ _ HN.out (by have := HN.out; omega) (by omega) (HL.out.below hB (Nat.le_refl _)) HO.out) ?_; rintro e w2 ⟨v, rfl, hv, hB2⟩; obtain ⟨a3, c3, rfl, j3⟩ := hv; rw [HK.out, nats_length, List.length_nil])
            go_ret
            exact ⟨by rw [HV.out]; rfl, hB.trans (hB2.mono hsz)⟩
          · have HV := Lib.hid (timesE_knot HG.out HM.out.symm HOD.out hk)
            obtain ⟨q, hq⟩ : ∃ q, (Gr.knot m L).length = q := ⟨_, rfl⟩
            have hq1 : 0 < q := by rw [← hq]; exact List.length_pos_iff.2 hk
            have HQ := Lib.hid hq
            clear hk hq
            go_wp2_with (go_at_call 109; refine Calls.mono (Knotted_any m L _ _ _ _ HN.out (by have := HN.out; omega) (by omega) (HL.out.below hB (Nat.le_refl _)) HO.out) ?_; rintro e w2 ⟨v, rfl, hv, hB2⟩; obtain ⟨a3, c3, rfl, j3⟩ := hv; rw [nats_length, HQ.out])
            go_ret
            exact ⟨by rw [HV.out]; rfl, hB.trans (hB2.mono hsz)⟩
    · have hlb : ((m : Int) != n) = true := by simp; omega
      have HV := Lib.hid (timesE_len HG.out (D := D) (by have := HM.out; omega))
      go_enter Try.func18, Try.ntmps18
      go_wp2_with (go_at_call 108; refine Calls.mono (gFault_any n n L _ _ _ _ HN.out hmax HL.out) ?_; rintro e w1 ⟨rfl, hB1⟩)
      go_ret
      exact ⟨by rw [HV.out]; rfl, hB1⟩
  · have hgb : (graphE z z L != 0) = true := by simp [hg]
    have HV := Lib.hid (timesE_graph (D := D) hg)
    clear hg
    go_enter Try.func18, Try.ntmps18
    go_wp2_with (go_at_call 108; refine Calls.mono (gFault_any z z L _ _ _ _ HN.out hmax HL.out) ?_; rintro e w1 ⟨rfl, hB1⟩)
    go_ret
    exact ⟨by rw [HV.out]; rfl, hB1⟩
theorem beqI (a b : Int) : (a == b) = (b == a) := by
  by_cases h : a = b
  · subst h; rfl
  · rw [beq_false_of_ne h, beq_false_of_ne (Ne.symm h)]
def edgeIn (L : El) (x y : Int) (q : Nat) : Bool := (L.take q).any fun z => z.1 == x && z.2 == y
theorem edgeIn_go {L : El} {x y x' y' : Int} {q : Nat} (h : L[q]? = some (x', y')) : edgeIn L x y (q + 1) = (edgeIn L x y q || (x' == x && y' == y)) := by
  simp [edgeIn, List.take_add_one, h, List.any_append]
theorem edgeIn_end (L : El) (x y : Int) : edgeIn L x y L.length = L.any fun z => z.1 == x && z.2 == y := by simp [edgeIn]
theorem edgeIn_mem {L : El} {x y : Int} {q : Nat} (h : L[q]? = some (x, y)) : (L.any fun z => z.1 == x && z.2 == y) = true := by
  rw [List.any_eq_true]
  exact ⟨_, List.mem_of_getElem? h, by simp⟩
set_option maxHeartbeats 4000000 in
theorem index_any (L : El) (x y : Int) (a : Option Addr) (l cap : Nat) (w : World) (hn : l = L.length) (hmax : l ≤ 9223372036854775807) (hL : Edges w a L) :
    Calls Try.prog 120 #[.slice a l cap, .agg #[.int .i64 x, .int .i64 y]] w fun e w' => ∃ z : Int, e = .returned (.int .i64 z) ∧ decide (z ≥ 0) = (L.any fun z => z.1 == x && z.2 == y) ∧ Below w.heap.size w w' := by
  have HL := Lib.hid hL
  have HN := Lib.hid hn
  clear hL hn
  go_enter Try.func120, Try.ntmps120
  go_wp2_with fail
  have HB0 := Lib.hid (show Below w.heap.size w (w.alloc (.cells #[.int .i64 x, .int .i64 y] 66)) from (Below.refl _ _).alloc (Nat.le_refl _) _)
  obtain ⟨W0, hW0⟩ : ∃ W, W = w.alloc (.cells #[.int .i64 x, .int .i64 y] 66) := ⟨_, rfl⟩
  have HC0 := Lib.hid (show W0.cell? ⟨w.heap.size, 0, none⟩ = some (.int .i64 x) from by rw [hW0, cell_of_row _ _ 0 _ _ (0, 0) (heap_alloc_new w _)]; rfl)
  have HC1 := Lib.hid (show W0.cell? ⟨w.heap.size, 1, none⟩ = some (.int .i64 y) from by rw [hW0, cell_of_row _ _ 1 _ _ (0, 0) (heap_alloc_new w _)]; rfl)
  have hs0 : w.heap.size < W0.heap.size := by rw [hW0]; simp
  rw [← hW0] at HB0 ⊢
  clear hW0
  go_loopw [8] (fun v wr => ∃ q : Nat, q ≤ l ∧ v = .int .i64 q ∧ Hid (edgeIn L x y q = false) ∧ Below W0.heap.size W0 wr) (fun v _ => l - (intOf v).toNat)
  case atStart => exact ⟨0, by omega, rfl, Lib.hid (by simp [edgeIn]), Below.refl _ _⟩
  case round =>
    obtain ⟨q, hq, rfl, HQ, hB⟩ := hrel
    have hsz := hB.size
    by_cases hql : q < l
    · obtain ⟨b, off, rfl, hb, hat⟩ := HL.out (by have := HN.out; omega)
      obtain ⟨⟨x', y'⟩, hx⟩ : ∃ x, L[q]? = some x := ⟨_, List.getElem?_eq_getElem (by have := HN.out; omega)⟩
      obtain ⟨q0, q1⟩ := hat.below (HB0.out.trans (hB.mono HB0.out.size)) hb q x' y' hx
      have hbr : b < wr.heap.size := by omega
      have c0 := (hB.cell (p := ⟨w.heap.size, 0, none⟩) hs0).trans HC0.out
      have c1 := (hB.cell (p := ⟨w.heap.size, 1, none⟩) hs0).trans HC1.out
      have lw : w.heap.size < wr.heap.size := by omega
      have HX := Lib.hid hx
      have HGO := Lib.hid (edgeIn_go (x := x) (y := y) hx)
      have hi1 : (0 : Int) ≤ (q : Int) := by omega
      have hi2 : (q : Int) < (l : Int) := by omega
      clear hat hx
      cases hxe : (x == x') with
      | false =>
        have HQ2 : Hid (edgeIn L x y (q + 1) = false) := Lib.hid (by rw [HGO.out, HQ.out, show (x' == x) = false from by rw [beqI]; exact hxe]; rfl)
        go_wp2_with fail
        go_quiet (fail)
        go_wp2_with fail
        go_roundw
        case rel => exact ⟨q + 1, by omega, rfl, HQ2, by refine below_drewN ?_ _; exact hB⟩
        case measure => simp [intOf]; omega
      | true =>
        cases hye : (y == y') with
        | false =>
          have HQ2 : Hid (edgeIn L x y (q + 1) = false) := Lib.hid (by rw [HGO.out, HQ.out, show (y' == y) = false from by rw [beqI]; exact hye]; simp)
          go_wp2_with fail
          go_quiet (fail)
          go_wp2_with fail
          go_roundw
          case rel => exact ⟨q + 1, by omega, rfl, HQ2, by refine below_drewN ?_ _; exact hB⟩
          case measure => simp [intOf]; omega
        | true =>
          have HY : Hid ((L.any fun z => z.1 == x && z.2 == y) = true) := Lib.hid (edgeIn_mem (by rw [HX.out, eq_of_beq hxe, eq_of_beq hye]))
          go_wp2_with fail
          go_quiet (fail)
          go_wp2_with fail
          go_ret
          exact ⟨(q : Int), rfl, by rw [HY.out]; simp, HB0.out.trans ((below_drewN hB _).mono HB0.out.size)⟩
    · have HY := Lib.hid (show (L.any fun z => z.1 == x && z.2 == y) = false from by rw [← edgeIn_end, ← show q = L.length from by have := HN.out; omega]; exact HQ.out)
      go_wp2_with fail
      go_ret
      exact ⟨-1, rfl, by rw [HY.out]; rfl, HB0.out.trans (hB.mono HB0.out.size)⟩
set_option maxHeartbeats 4000000 in
theorem contains_any (L : El) (x y : Int) (a : Option Addr) (l cap : Nat) (w : World) (hn : l = L.length) (hmax : l ≤ 9223372036854775807) (hL : Edges w a L) :
    Calls Try.prog 35 #[.slice a l cap, .agg #[.int .i64 x, .int .i64 y]] w fun e w' => e = .returned (.bool (L.any fun z => z.1 == x && z.2 == y)) ∧ Below w.heap.size w w' := by
  have HL := Lib.hid hL
  have HN := Lib.hid hn
  clear hL hn
  have HB0 := Lib.hid (show Below w.heap.size w (w.alloc (.cells #[.int .i64 x, .int .i64 y] 66)) from (Below.refl _ _).alloc (Nat.le_refl _) _)
  go_enter Try.func35, Try.ntmps35
  go_wp2_with (go_at_call 120; refine Calls.mono (index_any L x y a _ _ _ HN.out hmax (HL.out.below HB0.out (Nat.le_refl _))) ?_; rintro e w1 ⟨z, rfl, hz, hB1⟩; have HZ := Lib.hid hz; clear hz)
  go_ret
  exact ⟨by rw [← HZ.out]; rfl, HB0.out.trans (hB1.mono HB0.out.size)⟩
theorem Way_bad (z : Int) (L : El) (D : List Int) (a b : Option Addr) (l cap m cap2 : Nat) (w : World) (hn : l = L.length) (hmax : l ≤ 9223372036854775807) (hL : Edges w a L) (hm : m = D.length) (hmax2 : m ≤ 9223372036854775807) (hD : Vals w b (ints D)) (hb : timesE z L D ≠ 0) :
    Calls Try.prog 31 #[.int .i64 z, .slice a l cap, .slice b m cap2] w fun e w' => e = .returned (.tuple #[.slice none 0 0, .int .i64 (timesE z L D)]) ∧ Below w.heap.size w w' := by
  have HL := Lib.hid hL
  have HN := Lib.hid hn
  have HD := Lib.hid hD
  have HM := Lib.hid hm
  have HB := Lib.hid hb
  have hbb : (timesE z L D != 0) = true := by simp [hb]
  clear hL hn hD hm hb
  have HBW := Lib.hid (show Below w.heap.size w ((w.alloc (.cells #[.int .i64 z] 3)).alloc (.cells #[.slice a l cap] 35)) from ((Below.refl _ _).alloc (Nat.le_refl _) _).alloc (by simp) _)
  go_enter Try.func31, Try.ntmps31
  go_wp2_with (go_at_call 29; refine Calls.mono (Times_bad z L D _ _ _ _ _ _ _ HN.out hmax (HL.out.below HBW.out (Nat.le_refl _)) HM.out hmax2 (HD.out.below HBW.out (Nat.le_refl _)) HB.out) ?_; rintro e w1 ⟨rfl, hB1⟩)
  have hB2 := HBW.out.trans (hB1.mono HBW.out.size)
  exact bodyPost_ret (v := .tuple #[.slice none 0 0, .int .i64 (timesE z L D)]) (by simp [results, Try.results31, go_sem]) rfl ⟨rfl, hB2.alloc hB2.size _⟩
end Go.Proofs.Ytfjoakhcgpckgaa
