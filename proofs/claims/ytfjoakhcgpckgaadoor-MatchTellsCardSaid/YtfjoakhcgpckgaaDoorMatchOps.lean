/- Contracts: Pairs, Cover, Lack. -/
import Derived.Test.YtfjoakhcgpckgaaDoorMatchAlt
namespace Go.Proofs.YtfjoakhcgpckgaaDoor
open Go.ChangeShapes Go.WideShapes Go.ChangeAt Go.RowKit
set_option linter.unusedVariables false
open Gr (El)
open Mt
theorem edges_ok {n m : Nat} {L : El} (h : edgesB n m L = true) : Ok2 n m L := fun x hx => edgeB_yes (List.all_eq_true.1 h x hx)
set_option maxHeartbeats 1600000 in
theorem mPairs_bad (z y : Int) (L : El) (a : Option Addr) (n cap : Nat) (w : World) (hn : n = L.length) (hmax : n ≤ 9223372036854775807) (hL : Edges w a L) (hb : graphE z y L ≠ 0) :
    Calls Tryd.prog 5 #[.int .i64 z, .int .i64 y, .slice a n cap] w fun e w' => e = .returned (.tuple #[.slice none 0 0, .int .i64 (graphE z y L)]) ∧ Below w.heap.size w w' := by
  have C := Lib.hid (mCheck_any z y L a n cap w hn hmax hL)
  obtain ⟨q, hq⟩ : ∃ q, graphE z y L = q := ⟨_, rfl⟩
  rw [hq] at C hb ⊢
  have hb2 : (q != 0) = true := by simpa using hb
  clear hL hn hq
  go_enter Tryd.func5, Tryd.ntmps5
  go_wp2_with (go_at_call 9; refine Calls.mono C.out ?_; rintro e w1 ⟨rfl, h1⟩; have HB := Lib.hid h1; clear h1)
  go_ret2
  exact ⟨rfl, HB.out⟩
set_option maxHeartbeats 1600000 in
theorem mCover_bad (z y : Int) (L : El) (a : Option Addr) (n cap : Nat) (w : World) (hn : n = L.length) (hmax : n ≤ 9223372036854775807) (hL : Edges w a L) (hb : graphE z y L ≠ 0) :
    Calls Tryd.prog 6 #[.int .i64 z, .int .i64 y, .slice a n cap] w fun e w' => e = .returned (.tuple #[.slice none 0 0, .slice none 0 0, .int .i64 (graphE z y L)]) ∧ Below w.heap.size w w' := by
  have C := Lib.hid (mCheck_any z y L a n cap w hn hmax hL)
  obtain ⟨q, hq⟩ : ∃ q, graphE z y L = q := ⟨_, rfl⟩
  rw [hq] at C hb ⊢
  have hb2 : (q != 0) = true := by simpa using hb
  clear hL hn hq
  go_enter Tryd.func6, Tryd.ntmps6
  go_wp2_with (go_at_call 9; refine Calls.mono C.out ?_; rintro e w1 ⟨rfl, h1⟩; have HB := Lib.hid h1; clear h1)
  go_ret3
  exact ⟨rfl, HB.out⟩
set_option maxHeartbeats 1600000 in
theorem mLack_bad (z y : Int) (L : El) (a : Option Addr) (n cap : Nat) (w : World) (hn : n = L.length) (hmax : n ≤ 9223372036854775807) (hL : Edges w a L) (hb : graphE z y L ≠ 0) :
    Calls Tryd.prog 7 #[.int .i64 z, .int .i64 y, .slice a n cap] w fun e w' => e = .returned (.tuple #[.slice none 0 0, .int .i64 (graphE z y L)]) ∧ Below w.heap.size w w' := by
  have C := Lib.hid (mCheck_any z y L a n cap w hn hmax hL)
  obtain ⟨q, hq⟩ : ∃ q, graphE z y L = q := ⟨_, rfl⟩
  rw [hq] at C hb ⊢
  have hb2 : (q != 0) = true := by simpa using hb
  clear hL hn hq
  go_enter Tryd.func7, Tryd.ntmps7
  go_wp2_with (go_at_call 9; refine Calls.mono C.out ?_; rintro e w1 ⟨rfl, h1⟩; have HB := Lib.hid h1; clear h1)
  go_ret2
  exact ⟨rfl, HB.out⟩
def outV (n m : Nat) (h : Hs) : List Value := (List.range n).map fun i => .int .i64 (outK h m i)
def PairsP (n m : Nat) (L : El) (w : World) (e : Ending) (w' : World) : Prop := ∃ (go : Nat) (h : Hs), e = .returned (.tuple #[.slice (some ⟨go, 0, none⟩) n n, .int .i64 0]) ∧ AllR (Gr.rowN L) n h ∧ Mt.Ok (Ed (Gr.rowN L)) n m h ∧ Vals w' (some ⟨go, 0, none⟩) (outV n m h) ∧ Below w.heap.size w w'
def LackP (n m : Nat) (L : El) (w : World) (e : Ending) (w' : World) : Prop := ∃ (v : Value) (h : Hs) (lf rt : Nat), e = .returned (.tuple #[v, .int .i64 0]) ∧ AllR (Gr.rowN L) n h ∧ AltE (Gr.rowN L) n m h lf rt ∧ IsVals w' v (nats (Gr.yes lf.testBit 64)) ∧ Below w.heap.size w w'
def msk (n lf : Nat) : Nat := (2 ^ n - 1) &&& (18446744073709551615 - lf)
theorem pow60 {n : Nat} (hn : n ≤ 60) : 2 ^ n ≤ 1152921504606846976 := Nat.le_trans (Nat.pow_le_pow_right (by decide) hn) (by decide)
theorem msk_lt (n lf : Nat) (hn : n ≤ 60) : msk n lf < 18446744073709551616 := by
  have h1 := pow60 hn
  unfold msk
  exact Nat.lt_of_le_of_lt Nat.and_le_left (by omega)
theorem msk_bit {n lf : Nat} (hn : n ≤ 60) (hlf : lf < 2 ^ 60) (j : Nat) : (msk n lf).testBit j = (decide (j < n) && !lf.testBit j) := by
  have h1 := pow60 hn
  unfold msk
  rw [Gr.bit_and_not (by omega) (by omega), Gr.bit_all]
theorem msk_eq {n lf : Nat} (hn : n ≤ 60) (hlf : lf < 2 ^ 60) : bits .andNot .u64 (IntKind.u64.wrap (IntKind.u64.wrap ((2 : Int) ^ n) - 1)) (lf : Int) = (msk n lf : Int) := by
  have h1 := pow60 hn
  have h2 : 1 ≤ 2 ^ n := Nat.one_le_two_pow
  have e1 : IntKind.u64.wrap ((2 : Int) ^ n) = ((2 ^ n : Nat) : Int) := by
    rw [← Gr.cast_pow]
    exact IntWalk.u64_in _ ⟨by omega, by omega⟩
  have e2 : IntKind.u64.wrap (((2 ^ n : Nat) : Int) - 1) = ((2 ^ n - 1 : Nat) : Int) := by
    rw [show (((2 ^ n : Nat) : Int) - 1) = ((2 ^ n - 1 : Nat) : Int) from by omega]
    exact IntWalk.u64_in _ ⟨by omega, by omega⟩
  rw [e1, e2, u64_andNot_nat _ _ (by omega) (by omega)]
  rfl
def CoverP (n m : Nat) (L : El) (w : World) (e : Ending) (w' : World) : Prop := ∃ (va vb : Value) (h : Hs) (lf rt : Nat), e = .returned (.tuple #[va, vb, .int .i64 0]) ∧ AllR (Gr.rowN L) n h ∧ AltE (Gr.rowN L) n m h lf rt ∧ IsVals w' va (nats (Gr.yes (msk n lf).testBit 64)) ∧ IsVals w' vb (nats (Gr.yes rt.testBit 64)) ∧ Below w.heap.size w w'
theorem own_isVals {w : World} {base n : Nat} {v : Value} {l : List Nat} (h : w.ownsRow base 3 1 v n (nats l)) : IsVals w v (nats l) := IsVals.own h
set_option maxHeartbeats 1600000 in
theorem mPairs_good (n m : Nat) (L : El) (a : Option Addr) (l cap : Nat) (w : World) (hl : l = L.length) (hmax : l ≤ 9223372036854775807) (hL : Edges w a L) (hb : graphE n m L = 0) (hT : Gr.Bru w) (hG : 0 < w.heap.size) :
    Calls Tryd.prog 5 #[.int .i64 (n : Int), .int .i64 (m : Int), .slice a l cap] w fun e w' => PairsP n m L w e w' := by
  obtain ⟨g1, g2, g3, g4, g5, g6⟩ := graphE_good hb
  have hn : n ≤ 60 := by omega
  have hm : m ≤ 60 := by omega
  have hO := edges_ok g6
  have C : Hid (Calls Tryd.prog 9 #[.int .i64 (n : Int), .int .i64 (m : Int), .slice a l cap] w fun e w' => e = .returned (.int .i64 0) ∧ Below w.heap.size w w') := Lib.hid (by have := mCheck_any n m L a l cap w hl hmax hL; rwa [hb] at this)
  have HC := Lib.hid (fun w1 (h : Below w.heap.size w w1) => pairs_any n m L a l cap w1 hn hm hl (by omega) (hL.below h (Nat.le_refl _)) hO (hT.below h hG) (Nat.lt_of_lt_of_le hG h.size))
  clear hL hl hO hT g1 g2 g3 g4 g5 g6 hb
  go_enter Tryd.func5, Tryd.ntmps5
  go_wp2_with (first
    | (go_at_call 9; refine Calls.mono C.out ?_; rintro e w1 ⟨rfl, h1⟩; have HB := Lib.hid h1; clear h1)
    | (go_at_call 24; refine Calls.mono (HC.out _ HB.out) ?_; rintro e w2 ⟨gt, gm, gh, go, h, rfl, hW⟩; have HW := Lib.hid hW; clear hW))
  go_ret2
  exact ⟨_, h, rfl, HW.out.all, HW.out.pairs.ok, (by obtain ⟨a2, c2, e2, h2⟩ := IsVals.row (n := n) (cap := n) HW.out.out; simp only [List.length_map, List.length_range] at e2; cases e2; exact h2), HB.out.trans (HW.out.bel.mono HB.out.size)⟩
set_option maxHeartbeats 1600000 in
theorem mLack_good (n m : Nat) (L : El) (a : Option Addr) (l cap : Nat) (w : World) (hl : l = L.length) (hmax : l ≤ 9223372036854775807) (hL : Edges w a L) (hb : graphE n m L = 0) (hT : Gr.Bru w) (hG : 0 < w.heap.size) :
    Calls Tryd.prog 7 #[.int .i64 (n : Int), .int .i64 (m : Int), .slice a l cap] w fun e w' => LackP n m L w e w' := by
  obtain ⟨g1, g2, g3, g4, g5, g6⟩ := graphE_good hb
  have hn : n ≤ 60 := by omega
  have hm : m ≤ 60 := by omega
  have hO := edges_ok g6
  have C : Hid (Calls Tryd.prog 9 #[.int .i64 (n : Int), .int .i64 (m : Int), .slice a l cap] w fun e w' => e = .returned (.int .i64 0) ∧ Below w.heap.size w w') := Lib.hid (by have := mCheck_any n m L a l cap w hl hmax hL; rwa [hb] at this)
  have HC := Lib.hid (fun w1 (h : Below w.heap.size w w1) => alt_any n m L a l cap w1 hn hm hl (by omega) (hL.below h (Nat.le_refl _)) hO (hT.below h hG) (Nat.lt_of_lt_of_le hG h.size))
  have HT := Lib.hid hT
  clear hL hl hO hT g1 g2 g3 g4 g5 g6 hb
  go_enter Tryd.func7, Tryd.ntmps7
  go_wp2_with (first
    | (go_at_call 9; refine Calls.mono C.out ?_; rintro e w1 ⟨rfl, h1⟩; have HB := Lib.hid h1; clear h1)
    | (go_at_call 25; refine Calls.mono (HC.out _ HB.out) ?_; rintro e w2 ⟨h, lf, rt, rfl, h1, h2, h3, h4⟩; have HA := Lib.hid h1; have HE := Lib.hid h3; have HB2 := Lib.hid (HB.out.trans (h4.mono HB.out.size)); clear h1 h2 h3 h4)
    | (go_at_call 26; refine Calls.mono (list_any lf _ (by have := HE.out.b.1; omega) (HT.out.below HB2.out hG) (Nat.lt_of_lt_of_le hG HB2.out.size)) ?_; rintro e w3 ⟨v, rfl, h1, h2⟩; have HV := Lib.hid (own_isVals h1); have HB3 := Lib.hid (HB2.out.trans (h2.mono HB2.out.size)); clear h1 h2))
  go_ret2
  exact ⟨v, h, lf, rt, rfl, HA.out, HE.out, HV.out, HB3.out⟩
set_option maxHeartbeats 1600000 in
theorem mCover_good (n m : Nat) (L : El) (a : Option Addr) (l cap : Nat) (w : World) (hl : l = L.length) (hmax : l ≤ 9223372036854775807) (hL : Edges w a L) (hb : graphE n m L = 0) (hT : Gr.Bru w) (hG : 0 < w.heap.size) :
    Calls Tryd.prog 6 #[.int .i64 (n : Int), .int .i64 (m : Int), .slice a l cap] w fun e w' => CoverP n m L w e w' := by
  obtain ⟨g1, g2, g3, g4, g5, g6⟩ := graphE_good hb
  have hn : n ≤ 60 := by omega
  have hm : m ≤ 60 := by omega
  have hO := edges_ok g6
  have C : Hid (Calls Tryd.prog 9 #[.int .i64 (n : Int), .int .i64 (m : Int), .slice a l cap] w fun e w' => e = .returned (.int .i64 0) ∧ Below w.heap.size w w') := Lib.hid (by have := mCheck_any n m L a l cap w hl hmax hL; rwa [hb] at this)
  have HC := Lib.hid (fun w1 (h : Below w.heap.size w w1) => alt_any n m L a l cap w1 hn hm hl (by omega) (hL.below h (Nat.le_refl _)) hO (hT.below h hG) (Nat.lt_of_lt_of_le hG h.size))
  have HT := Lib.hid hT
  clear hL hl hO hT g1 g2 g3 g4 g5 g6 hb
  have hn0 : (0 : Int) ≤ (n : Int) := by omega
  go_enter Tryd.func6, Tryd.ntmps6
  go_wp2_with (first
    | (go_at_call 9; refine Calls.mono C.out ?_; rintro e w1 ⟨rfl, h1⟩; have HB := Lib.hid h1; clear h1)
    | (go_at_call 25; refine Calls.mono (HC.out _ HB.out) ?_; rintro e w2 ⟨h, lf, rt, rfl, h1, h2, h3, h4⟩; have HA := Lib.hid h1; have HE := Lib.hid h3; have HB2 := Lib.hid (HB.out.trans (h4.mono HB.out.size)); have HMS := Lib.hid (msk_eq hn h3.b.1); clear h1 h2 h3 h4)
    | (rw [HMS.out]; go_at_call 26; refine Calls.mono (list_any (msk n lf) _ (msk_lt n lf hn) (HT.out.below HB2.out hG) (Nat.lt_of_lt_of_le hG HB2.out.size)) ?_; rintro e w3 ⟨va, rfl, h1, h2⟩; have HVA := Lib.hid (own_isVals h1); have HB3 := Lib.hid (HB2.out.trans (h2.mono HB2.out.size)); clear h1 h2)
    | (go_at_call 26; refine Calls.mono (list_any rt _ (by have := HE.out.b.2; omega) (HT.out.below HB3.out hG) (Nat.lt_of_lt_of_le hG HB3.out.size)) ?_; rintro e w4 ⟨vb, rfl, h1, h2⟩; have HVB := Lib.hid (own_isVals h1); have HVA4 := Lib.hid (HVA.out.below h2 (Nat.le_refl _)); have HB4 := Lib.hid (HB3.out.trans (h2.mono HB3.out.size)); clear h1 h2))
  go_ret3
  exact ⟨va, vb, h, lf, rt, rfl, HA.out, HE.out, HVA4.out, HVB.out, HB4.out⟩
end Go.Proofs.YtfjoakhcgpckgaaDoor
