/- The walk of the law BookTells: for all slots it answers true. -/
import Derived.Test.YtfjoakhcgpckgaaBookPut
import Derived.Deep.DeepCutAuto
import Derived.Deep.CutBlock
namespace Go.Proofs.Ytfjoakhcgpckgaa
open Go.ChangeShapes Go.WideShapes Go.ChangeAt Go.RowKit
set_option linter.unusedVariables false
open Bk
set_option maxRecDepth 20000 in
set_option maxHeartbeats 4000000 in
theorem bookLaw_bad (size nd s t : Int) (x : Sl) (L : List Sl) (a : Option Addr) (n cap : Nat) (w : World) (hn : n = L.length) (hmax : n ≤ 9223372036854775807) (hL : Slots w a L) (hb : slotsE size L ≠ 0) :
    Calls Try.prog 11 #[.int .i64 size, .slice a n cap, .agg #[.int .i64 x.fr, .int .i64 x.to, .int .i64 x.n], .int .i64 nd, .int .i64 s, .int .i64 t] w fun e w' => e = .returned (.bool true) ∧ Below w.heap.size w w' := by
  obtain ⟨W0, hW0⟩ : ∃ W, W = w.alloc (.cells #[.int .i64 x.fr, .int .i64 x.to, .int .i64 x.n] 130) := ⟨_, rfl⟩
  obtain ⟨c, hc⟩ : ∃ c, c = w.heap.size := ⟨_, rfl⟩
  have HX0 : Hid (BoxS c x W0) := Lib.hid (by rw [hW0, hc]; exact BoxS.new x w _)
  have HB0 : Hid (Below w.heap.size w W0) := Lib.hid (by rw [hW0]; exact (Below.refl _ _).alloc (Nat.le_refl _) _)
  have HLW : Hid (∀ W, Below w.heap.size w W → Slots W a L) := Lib.hid (fun W h => hL.below h (Nat.le_refl _))
  have CM := Lib.hid (fun W h => bMost_bad size L s t a n cap W hn hmax (HLW.out W h) hb)
  have CF := Lib.hid (fun W h => bFind_bad size nd s t L a n cap W hn hmax (HLW.out W h) hb)
  have CP := Lib.hid (fun W h => bPut_bad size x L a n cap W hn hmax (HLW.out W h) hb)
  have CG := Lib.hid (fun W h => bGaps_bad size nd L a n cap W hn hmax (HLW.out W h) hb)
  have CS := Lib.hid (fun W h => rSlots_any size L a n cap W hn hmax (HLW.out W h))
  have CC := Lib.hid (fun W h => bCheck_any size L a n cap W hn hmax (HLW.out W h))
  obtain ⟨z, hz⟩ : ∃ z, slotsE size L = z := ⟨_, rfl⟩
  simp only [hz] at CM CF CP CG CS CC
  rw [hz] at hb
  have hb2 : (z != 0) = true := by simpa using hb
  clear hL hn hz
  go_enter Try.func11, Try.ntmps11
  go_upto_region 1 with fail
  rw [← hW0, ← hc]
  clear hW0 hc
  go_wp2_with (first
    | (go_at_call 81; refine Calls.mono (CM.out _ HB0.out) ?_; rintro e w1 ⟨rfl, h1⟩; have HB1 := Lib.hid (HB0.out.trans (h1.mono HB0.out.size)); have HX1 := Lib.hid (HX0.out.below h1); clear h1)
    | (go_at_call 82; refine Calls.mono (CF.out _ HB1.out) ?_; rintro e w2 ⟨rfl, h1⟩; have HB2 := Lib.hid (HB1.out.trans (h1.mono HB1.out.size)); have HX2 := HX1.out.below h1; have e0 := HX2.at0; have e1 := HX2.at1; have e2 := HX2.at2; have l0 := HX2.lt; clear h1 HX2)
    | (go_at_call 83; refine Calls.mono (CP.out _ HB2.out) ?_; rintro e w3 ⟨rfl, h1⟩; have HB3 := Lib.hid (HB2.out.trans (h1.mono HB2.out.size)); clear h1)
    | (go_at_call 84; refine Calls.mono (CG.out _ HB3.out) ?_; rintro e w4 ⟨rfl, h1⟩; have HB4 := Lib.hid (HB3.out.trans (h1.mono HB3.out.size)); clear h1)
    | (go_at_call 85; refine Calls.mono (CS.out _ HB4.out) ?_; rintro e w5 ⟨rfl, h1⟩; have HB5 := Lib.hid (HB4.out.trans (h1.mono HB4.out.size)); clear h1)
    | (go_at_call 86; refine Calls.mono (CC.out _ HB5.out) ?_; rintro e w6 ⟨rfl, h1⟩; have HB6 := Lib.hid (HB5.out.trans (h1.mono HB5.out.size)); clear h1))
  go_ret
  exact ⟨rfl, HB6.out⟩
def mostBad (s t : Int) : Prop := s < 0 ∨ t ≤ s ∨ 1000000 < t
instance (s t : Int) : Decidable (mostBad s t) := by unfold mostBad; infer_instance
def MostQ (L : List Sl) (s t m z : Int) : Prop := (mostBad s t ∧ m = 0 ∧ z = 4) ∨ (¬ mostBad s t ∧ z = 0 ∧ IsMost L s t m)
theorem bMost_all (size : Int) (L : List Sl) (x y : Int) (a : Option Addr) (n cap : Nat) (w : World) (hn : n = L.length) (hmax : n ≤ 9223372036854775807) (hL : Slots w a L) (hb : slotsE size L = 0) :
    Calls Try.prog 81 #[.int .i64 size, .slice a n cap, .int .i64 x, .int .i64 y] w fun e w' => ∃ m z, e = .returned (.tuple #[.int .i64 m, .int .i64 z]) ∧ MostQ L x y m z ∧ Below w.heap.size w w' := by
  by_cases h : mostBad x y
  · refine (bMost_range size L x y a n cap w hn hmax hL hb h).mono ?_
    rintro e w' ⟨rfl, h1⟩
    exact ⟨0, 4, rfl, .inl ⟨h, rfl, rfl⟩, h1⟩
  · have h2 : ¬ (x < 0 ∨ y ≤ x ∨ 1000000 < y) := h
    refine (bMost_good size L x y a n cap w hn hmax hL hb (by omega) (by omega) (by omega)).mono ?_
    rintro e w' ⟨m, rfl, h1, h3⟩
    exact ⟨m, 0, rfl, .inr ⟨h, rfl, h1⟩, h3⟩
def gapBad (size nd : Int) : Prop := nd < 1 ∨ size < nd
instance (s t : Int) : Decidable (gapBad s t) := by unfold gapBad; infer_instance
def GapsQ (size nd : Int) (L : List Sl) (ga : Option Addr) (m : Nat) (z : Int) (w' : World) : Prop := (gapBad size nd ∧ m = 0 ∧ z = 4) ∨ (¬ gapBad size nd ∧ z = 0 ∧ m = (gapsOf size nd L).length ∧ m ≤ 204 ∧ Vals w' ga (slc (gapsOf size nd L)))
theorem bGaps_all (size nd : Int) (L : List Sl) (a : Option Addr) (n cap : Nat) (w : World) (hn : n = L.length) (hmax : n ≤ 9223372036854775807) (hL : Slots w a L) (hb : slotsE size L = 0) :
    Calls Try.prog 84 #[.int .i64 size, .slice a n cap, .int .i64 nd] w fun e w' => ∃ ga m gc z, e = .returned (.tuple #[.slice ga m gc, .int .i64 z]) ∧ GapsQ size nd L ga m z w' ∧ Below w.heap.size w w' := by
  by_cases h : gapBad size nd
  · refine (bGaps_range size nd L a n cap w hn hmax hL hb h).mono ?_
    rintro e w' ⟨rfl, h1⟩
    exact ⟨none, 0, 0, 4, rfl, .inl ⟨h, rfl, rfl⟩, h1⟩
  · have h2 : ¬ (nd < 1 ∨ size < nd) := h
    refine (bGaps_good size nd L a n cap w hn hmax hL hb (by omega) (by omega)).mono ?_
    rintro e w' ⟨ga, m, gc, rfl, h1, h3, h4, h5⟩
    exact ⟨ga, m, gc, 0, rfl, .inr ⟨h, rfl, h1, h3, h4⟩, h5⟩
def findBad (size nd s t : Int) : Prop := nd < 1 ∨ size < nd ∨ s < 1 ∨ 1000000 < s ∨ t < 0 ∨ 1000000 < t
instance (size nd s t : Int) : Decidable (findBad size nd s t) := by unfold findBad; infer_instance
def FindQ (size nd : Int) (L : List Sl) (s t r z : Int) : Prop := (findBad size nd s t ∧ r = 0 ∧ z = 4) ∨ (¬ findBad size nd s t ∧ FoundP size nd L s t r z)
theorem bFind_all (size nd long after : Int) (L : List Sl) (a : Option Addr) (n cap : Nat) (w : World) (hn : n = L.length) (hmax : n ≤ 9223372036854775807) (hL : Slots w a L) (hb : slotsE size L = 0) :
    Calls Try.prog 82 #[.int .i64 size, .slice a n cap, .int .i64 nd, .int .i64 long, .int .i64 after] w fun e w' => ∃ r z, e = .returned (.tuple #[.int .i64 r, .int .i64 z]) ∧ FindQ size nd L long after r z ∧ Below w.heap.size w w' := by
  by_cases h : findBad size nd long after
  · refine (bFind_range size nd long after L a n cap w hn hmax hL hb h).mono ?_
    rintro e w' ⟨rfl, h1⟩
    exact ⟨0, 4, rfl, .inl ⟨h, rfl, rfl⟩, h1⟩
  · have h2 : ¬ (nd < 1 ∨ size < nd ∨ long < 1 ∨ 1000000 < long ∨ after < 0 ∨ 1000000 < after) := h
    refine (bFind_good size nd long after L a n cap w hn hmax hL hb (by omega) (by omega) (by omega) (by omega) (by omega) (by omega)).mono ?_
    rintro e w' ⟨r, z, rfl, h1, h3⟩
    exact ⟨r, z, rfl, .inr ⟨h, h1⟩, h3⟩
def PutQ (size : Int) (L : List Sl) (x : Sl) (n : Nat) (p : Option Addr) (k : Nat) (z : Int) (w' : World) : Prop :=
  (slotsE size [x] ≠ 0 ∧ k = 0 ∧ z = slotsE size [x]) ∨ (slotsE size [x] = 0 ∧ n = 100 ∧ k = 0 ∧ z = 7) ∨ (slotsE size [x] = 0 ∧ n < 100 ∧ overB size (L ++ [x]) = true ∧ k = 0 ∧ z = 10) ∨ (slotsE size [x] = 0 ∧ n < 100 ∧ overB size (L ++ [x]) = false ∧ k = n + 1 ∧ z = 0 ∧ Vals w' p (slc (L ++ [x])))
theorem PutQ.below {size : Int} {L : List Sl} {x : Sl} {n : Nat} {p : Option Addr} {k : Nat} {z : Int} {w w' : World} (h : PutQ size L x n p k z w) (hb : Below w.heap.size w w') : PutQ size L x n p k z w' := by
  rcases h with h | h | h | ⟨h1, h2, h3, h4, h5, h6⟩
  · exact .inl h
  · exact .inr (.inl h)
  · exact .inr (.inr (.inl h))
  · exact .inr (.inr (.inr ⟨h1, h2, h3, h4, h5, h6.below hb (Nat.le_refl _)⟩))
theorem GapsQ.below {size nd : Int} {L : List Sl} {p : Option Addr} {k : Nat} {z : Int} {w w' : World} (h : GapsQ size nd L p k z w) (hb : Below w.heap.size w w') : GapsQ size nd L p k z w' := by
  rcases h with h | ⟨h1, h2, h3, h4, h6⟩
  · exact .inl h
  · exact .inr ⟨h1, h2, h3, h4, h6.below hb (Nat.le_refl _)⟩
theorem bPut_all (size : Int) (x : Sl) (L : List Sl) (a : Option Addr) (n cap : Nat) (w : World) (hn : n = L.length) (hmax : n ≤ 9223372036854775807) (hL : Slots w a L) (hb : slotsE size L = 0) :
    Calls Try.prog 83 #[.int .i64 size, .slice a n cap, .agg #[.int .i64 x.fr, .int .i64 x.to, .int .i64 x.n]] w fun e w' => ∃ p k pc z, e = .returned (.tuple #[.slice p k pc, .int .i64 z]) ∧ PutQ size L x n p k z w' ∧ Below w.heap.size w w' := by
  have hl := (slotsE_good hb).2.2.1
  by_cases hx : slotsE size [x] = 0
  · by_cases h100 : n = 100
    · refine (bPut_full size x L a n cap w hn h100 hL hb hx).mono ?_
      rintro e w' ⟨rfl, h1⟩
      exact ⟨none, 0, 0, 7, rfl, .inr (.inl ⟨hx, h100, rfl, rfl⟩), h1⟩
    · refine (bPut_end size x L a n cap w hn (by omega) hL hb hx).mono ?_
      rintro e w' ⟨g, c, z, rfl, h1, h2, h3⟩
      cases ho : overB size (L ++ [x]) with
      | true =>
        rw [ho] at h1 h2
        exact ⟨g, 0, c, z, by simp, .inr (.inr (.inl ⟨hx, by omega, ho, rfl, by simpa using h1⟩)), h3⟩
      | false =>
        rw [ho] at h1 h2
        exact ⟨g, n + 1, c, z, by simp, .inr (.inr (.inr ⟨hx, by omega, ho, rfl, by simpa using h1, h2 rfl⟩)), h3⟩
  · refine (bPut_badx size x L a n cap w hn hmax hL hb hx).mono ?_
    rintro e w' ⟨rfl, h1⟩
    exact ⟨none, 0, 0, _, rfl, .inl ⟨hx, rfl, rfl⟩, h1⟩
theorem slots_more {size : Int} {L : List Sl} {x : Sl} (h1 : slotsE size L = 0) (h2 : slotsE size [x] = 0) (h3 : L.length < 100) : slotsE size (L ++ [x]) = if overB size (L ++ [x]) then 10 else 0 := by
  obtain ⟨a1, a2, a3, a4, a5, a6⟩ := slotsE_good h1
  obtain ⟨_, _, _, b4, b5, b6⟩ := slotsE_good h2
  refine slotsE_fin (by omega) (by simp; omega) ?_
  rw [List.all_append, a5, b5]; rfl
theorem one3 (x : Sl) : ∀ u ∈ [Value.int .i64 x.fr, Value.int .i64 x.to, Value.int .i64 x.n], u.oneCell' = true := by
  intro u hu
  simp at hu
  rcases hu with rfl | rfl | rfl <;> rfl
set_option maxRecDepth 20000 in
set_option maxHeartbeats 8000000 in
theorem bookLaw_good (size nd s t : Int) (x : Sl) (L : List Sl) (a : Option Addr) (n cap : Nat) (w : World) (hn : n = L.length) (hmax : n ≤ 9223372036854775807) (hL : Slots w a L) (hb : slotsE size L = 0) :
    Calls Try.prog 11 #[.int .i64 size, .slice a n cap, .agg #[.int .i64 x.fr, .int .i64 x.to, .int .i64 x.n], .int .i64 nd, .int .i64 s, .int .i64 t] w fun e w' => e = .returned (.bool true) ∧ Below w.heap.size w w' := by
  obtain ⟨g1, g2, g3, g4, _, _⟩ := slotsE_good hb
  obtain ⟨W0, hW0⟩ : ∃ W, W = w.alloc (.cells #[.int .i64 x.fr, .int .i64 x.to, .int .i64 x.n] 130) := ⟨_, rfl⟩
  obtain ⟨c, hc⟩ : ∃ c, c = w.heap.size := ⟨_, rfl⟩
  have HX0 : Hid (BoxS c x W0) := Lib.hid (by rw [hW0, hc]; exact BoxS.new x w _)
  have HB0 : Hid (Below w.heap.size w W0) := Lib.hid (by rw [hW0]; exact (Below.refl _ _).alloc (Nat.le_refl _) _)
  have HLW : Hid (∀ W, Below w.heap.size w W → Slots W a L) := Lib.hid (fun W h => hL.below h (Nat.le_refl _))
  have CM := Lib.hid (fun W h => bMost_all size L s t a n cap W hn hmax (HLW.out W h) hb)
  have CF := Lib.hid (fun W h => bFind_all size nd s t L a n cap W hn hmax (HLW.out W h) hb)
  have CP := Lib.hid (fun W h => bPut_all size x L a n cap W hn hmax (HLW.out W h) hb)
  have CG := Lib.hid (fun W h => bGaps_all size nd L a n cap W hn hmax (HLW.out W h) hb)
  have CS := Lib.hid (fun W h => rSlots_any size L a n cap W hn hmax (HLW.out W h))
  have CC := Lib.hid (fun W h => bCheck_any size L a n cap W hn hmax (HLW.out W h))
  simp only [hb] at CS CC
  have HN := Lib.hid hn
  have HS := Lib.hid g4
  have HE := Lib.hid hb
  have hl : n ≤ 100 := by omega
  clear hL hn hb g3 g4
  go_enter Try.func11, Try.ntmps11
  go_upto_region 1 with fail
  rw [← hW0, ← hc]
  clear hW0 hc
  go_upto_region 10 with (first
    | (go_at_call 81; refine Calls.mono (CM.out _ HB0.out) ?_; rintro e w1 ⟨m, z1, rfl, h0, h1⟩; have HQM := Lib.hid h0; have HB1 := Lib.hid (HB0.out.trans (h1.mono HB0.out.size)); have HX1 := Lib.hid (HX0.out.below h1); clear h0 h1)
    | (go_at_call 82; refine Calls.mono (CF.out _ HB1.out) ?_; rintro e w2 ⟨r, z2, rfl, h0, h1⟩; have HQF := Lib.hid h0; have HB2 := Lib.hid (HB1.out.trans (h1.mono HB1.out.size)); have HX2 := Lib.hid (HX1.out.below h1); have e0 := HX2.out.at0; have e1 := HX2.out.at1; have e2 := HX2.out.at2; have l0 := HX2.out.lt; clear h0 h1)
    | (go_at_call 83; refine Calls.mono (CP.out _ HB2.out) ?_; rintro e w3 ⟨p, k, pc, z3, rfl, h0, h1⟩; have HQP3 := Lib.hid h0; have HB3 := Lib.hid (HB2.out.trans (h1.mono HB2.out.size)); have HX3 := Lib.hid (HX2.out.below h1); clear h0 h1 e0 e1 e2 l0)
    | (go_at_call 84; refine Calls.mono (CG.out _ HB3.out) ?_; rintro e w4 ⟨ga, gm, gc, z4, rfl, h0, h1⟩; have HQG4 := Lib.hid h0; have HQP4 := Lib.hid (HQP3.out.below h1); have HB4 := Lib.hid (HB3.out.trans (h1.mono HB3.out.size)); have HX4 := Lib.hid (HX3.out.below h1); clear h0 h1)
    | (go_at_call 85; refine Calls.mono (CS.out _ HB4.out) ?_; rintro e w5 ⟨rfl, h1⟩; have HQG5 := Lib.hid (HQG4.out.below h1); have HQP5 := Lib.hid (HQP4.out.below h1); have HB5 := Lib.hid (HB4.out.trans (h1.mono HB4.out.size)); have HX5 := Lib.hid (HX4.out.below h1); clear h1)
    | (go_at_call 86; refine Calls.mono (CC.out _ HB5.out) ?_; rintro e w6 ⟨rfl, h1⟩; have HQG := Lib.hid (HQG5.out.below h1); have HQP := Lib.hid (HQP5.out.below h1); have HB := Lib.hid (HB5.out.trans (h1.mono HB5.out.size)); have HX := Lib.hid (HX5.out.below h1); clear h1))
  clear HX0 HX1 HX2 HX3 HX4 HX5 HB0 HB1 HB2 HB3 HB4 HB5 HQP3 HQP4 HQP5 HQG4 HQG5 CM CF CP CG CS CC
  go_cut [112] (fun v W => v = .bool (decide (mostBad s t)) ∧ W = w6)
  case first => as_aux_lemma =>
    have hcase : s < 0 ∨ (0 ≤ s ∧ t ≤ s) ∨ (0 ≤ s ∧ s < t ∧ 1000000 < t) ∨ (0 ≤ s ∧ s < t ∧ t ≤ 1000000) := by omega
    have HBD : Hid (mostBad s t ↔ (s < 0 ∨ t ≤ s ∨ 1000000 < t)) := Lib.hid Iff.rfl
    rcases hcase with p1 | ⟨p1, p2⟩ | ⟨p1, p2, p3⟩ | ⟨p1, p2, p3⟩
    · go_wp2_with fail
      go_meet
      exact ⟨by rw [decide_eq_true (HBD.out.2 (by omega))], rfl⟩
    · go_wp2_with fail
      go_meet
      exact ⟨by rw [decide_eq_true (HBD.out.2 (by omega))], rfl⟩
    · go_wp2_with fail
      go_meet
      exact ⟨by rw [decide_eq_true (HBD.out.2 (by omega))], rfl⟩
    · go_wp2_with fail
      go_meet
      exact ⟨by rw [show decide (mostBad s t) = false from decide_eq_false (fun h => by have := HBD.out.1 h; omega)]; simp; omega, rfl⟩
  case rest => as_aux_lemma =>
    obtain ⟨rfl, rfl⟩ := hcut
    go_upto_if 112 with fail
    go_cut [12] (fun v W => v = .bool false ∧ Below wc.heap.size wc W)
    case first => as_aux_lemma =>
      rcases HQM.out with ⟨h1, rfl, rfl⟩ | ⟨h1, rfl, h2⟩
      · rw [decide_eq_true h1]
        go_wp2_with fail
        go_meet
        exact ⟨rfl, Below.refl _ _⟩
      · rw [decide_eq_false h1]
        have HMM := Lib.hid h2
        have hmb : ¬ (s < 0 ∨ t ≤ s ∨ 1000000 < t) := h1
        clear h1 h2
        go_wp2_with (go_at_call 87; refine Calls.mono (rMost_any L s t a n cap _ HN.out (by omega) HS.out (HLW.out _ HB.out) (by omega)) ?_; rintro e w7 ⟨m', rfl, h1, h2⟩; obtain rfl : m' = m := h1.uniq HMM.out; have HB7 := Lib.hid h2; clear h1 h2)
        go_meet
        exact ⟨rfl, HB7.out⟩
    case rest => as_aux_lemma =>
      obtain ⟨rfl, hb7⟩ := hcut
      have HX7 := Lib.hid (HX.out.below hb7)
      have HQP7 := Lib.hid (HQP.out.below hb7)
      have HB7 := Lib.hid (HB.out.trans (hb7.mono HB.out.size))
      have HQG7 := Lib.hid (HQG.out.below hb7)
      clear HX HQP HB HQG hb7 HQM
      go_upto_region 15 with fail
      go_cut [135] (fun v W => v = .bool (decide (gapBad size nd)) ∧ W = wc)
      case first => as_aux_lemma =>
        have hcase : nd < 1 ∨ (1 ≤ nd ∧ size < nd) ∨ (1 ≤ nd ∧ nd ≤ size) := by omega
        have HBD : Hid (gapBad size nd ↔ (nd < 1 ∨ size < nd)) := Lib.hid Iff.rfl
        rcases hcase with p1 | ⟨p1, p2⟩ | ⟨p1, p2⟩
        · go_wp2_with fail
          go_meet
          exact ⟨by rw [show decide (gapBad size nd) = true from decide_eq_true (HBD.out.2 (by omega))], rfl⟩
        · go_wp2_with fail
          go_meet
          exact ⟨by rw [show decide (gapBad size nd) = true from decide_eq_true (HBD.out.2 (by omega))], rfl⟩
        · go_wp2_with fail
          go_meet
          exact ⟨by rw [show decide (gapBad size nd) = false from decide_eq_false (fun h => by have := HBD.out.1 h; omega)]; simp; omega, rfl⟩
      case rest => as_aux_lemma =>
        obtain ⟨rfl, rfl⟩ := hcut
        go_upto_if 135 with fail
        go_cut [12] (fun v W => v = .bool false ∧ Below wc.heap.size wc W)
        case first => as_aux_lemma =>
          rcases HQG7.out with ⟨h1, rfl, rfl⟩ | ⟨h1, rfl, h2, h3, h4⟩
          · rw [decide_eq_true h1]
            go_wp2_with fail
            go_meet
            exact ⟨rfl, Below.refl _ _⟩
          · rw [decide_eq_false h1]
            have HM2 := Lib.hid h2
            have HV2 := Lib.hid h4
            clear h1 h2 h4
            go_wp2_with (first
              | (go_at_call 89; refine Calls.mono (rGaps_any size nd L a n cap _ HN.out (by omega) HS.out (HLW.out _ HB7.out) g1 g2) ?_; rintro e w8 ⟨ga2, m2, gc2, rfl, q1, q2, q3, q4⟩; obtain rfl : m2 = gm := q1.trans HM2.out.symm; have HV8 := Lib.hid (Slots.of q3); have HV9 := Lib.hid (Slots.of (HV2.out.below q4 (Nat.le_refl _))); have HB8 := Lib.hid q4; clear q1 q3 q4)
              | (go_at_call 88; refine Calls.mono (rSame_any (gapsOf size nd L) ga ga2 m2 gc gc2 _ HM2.out (by omega) HV9.out HV8.out) ?_; rintro e w9 ⟨rfl, q⟩; have HB9 := Lib.hid (HB8.out.trans (q.mono HB8.out.size)); clear q))
            go_meet
            exact ⟨rfl, HB9.out⟩
        case rest => as_aux_lemma =>
          obtain ⟨rfl, hb7⟩ := hcut
          have HX8 := Lib.hid (HX7.out.below hb7)
          have HQP8 := Lib.hid (HQP7.out.below hb7)
          have HB8 := Lib.hid (HB7.out.trans (hb7.mono HB7.out.size))
          clear HX7 HQP7 HB7 HQG7 hb7
          go_upto_region 20 with fail
          go_cut [176] (fun v W => v = .bool (decide (findBad size nd s t)) ∧ W = wc)
          case first => as_aux_lemma =>
            have hcase : nd < 1 ∨ (1 ≤ nd ∧ size < nd) ∨ (1 ≤ nd ∧ nd ≤ size ∧ s < 1) ∨ (1 ≤ nd ∧ nd ≤ size ∧ 1 ≤ s ∧ 1000000 < s) ∨ (1 ≤ nd ∧ nd ≤ size ∧ 1 ≤ s ∧ s ≤ 1000000 ∧ t < 0) ∨ (1 ≤ nd ∧ nd ≤ size ∧ 1 ≤ s ∧ s ≤ 1000000 ∧ 0 ≤ t ∧ 1000000 < t) ∨ (1 ≤ nd ∧ nd ≤ size ∧ 1 ≤ s ∧ s ≤ 1000000 ∧ 0 ≤ t ∧ t ≤ 1000000) := by omega
            have HBD : Hid (findBad size nd s t ↔ (nd < 1 ∨ size < nd ∨ s < 1 ∨ 1000000 < s ∨ t < 0 ∨ 1000000 < t)) := Lib.hid Iff.rfl
            rcases hcase with p1 | ⟨p1, p2⟩ | ⟨p1, p2, p3⟩ | ⟨p1, p2, p3, p4⟩ | ⟨p1, p2, p3, p4, p5⟩ | ⟨p1, p2, p3, p4, p5, p6⟩ | ⟨p1, p2, p3, p4, p5, p6⟩
            · go_wp2_with fail
              go_meet
              exact ⟨by rw [show decide (findBad size nd s t) = true from decide_eq_true (HBD.out.2 (by omega))] <;> simp <;> omega, rfl⟩
            · go_wp2_with fail
              go_meet
              exact ⟨by rw [show decide (findBad size nd s t) = true from decide_eq_true (HBD.out.2 (by omega))] <;> simp <;> omega, rfl⟩
            · go_wp2_with fail
              go_meet
              exact ⟨by rw [show decide (findBad size nd s t) = true from decide_eq_true (HBD.out.2 (by omega))] <;> simp <;> omega, rfl⟩
            · go_wp2_with fail
              go_meet
              exact ⟨by rw [show decide (findBad size nd s t) = true from decide_eq_true (HBD.out.2 (by omega))] <;> simp <;> omega, rfl⟩
            · go_wp2_with fail
              go_meet
              exact ⟨by rw [show decide (findBad size nd s t) = true from decide_eq_true (HBD.out.2 (by omega))] <;> simp <;> omega, rfl⟩
            · go_wp2_with fail
              go_meet
              exact ⟨by rw [show decide (findBad size nd s t) = true from decide_eq_true (HBD.out.2 (by omega))] <;> simp <;> omega, rfl⟩
            · go_wp2_with fail
              go_meet
              exact ⟨by rw [show decide (findBad size nd s t) = false from decide_eq_false (fun h => by have := HBD.out.1 h; omega)] <;> simp <;> omega, rfl⟩
          case rest => as_aux_lemma =>
            obtain ⟨rfl, rfl⟩ := hcut
            go_upto_if 176 with fail
            go_cut [12] (fun v W => v = .bool false ∧ Below wc.heap.size wc W)
            case first => as_aux_lemma =>
              rcases HQF.out with ⟨h1, rfl, rfl⟩ | ⟨h1, h2⟩
              · rw [decide_eq_true h1]
                go_wp2_with fail
                go_meet
                exact ⟨rfl, Below.refl _ _⟩
              · rw [decide_eq_false h1]
                have hfb : ¬ (nd < 1 ∨ size < nd ∨ s < 1 ∨ 1000000 < s ∨ t < 0 ∨ 1000000 < t) := h1
                have C := Lib.hid (fun W h => rTime_any size nd s t L a n cap W HN.out hl HS.out (HLW.out W h) g1 g2 (by omega) (by omega) (by omega) (by omega) (by omega) (by omega))
                have hs1 : 1 ≤ s := by omega
                clear hfb h1
                rcases h2 with ⟨rfl, hf⟩ | ⟨rfl, rfl, hf⟩
                · have HF := Lib.hid hf
                  have hr : decide (r < 2000000) = true := by have := hf.fit.fin; simp; omega
                  clear hf
                  go_wp2_with (go_at_call 90; refine Calls.mono (C.out _ HB8.out) ?_; rintro e w9 ⟨best, rfl, q1, q2⟩; obtain rfl : best = r := q1.found HF.out hs1; rw [hr]; have HB9 := Lib.hid q2; clear q1 q2)
                  go_meet
                  exact ⟨rfl, HB9.out⟩
                · have HF := Lib.hid hf
                  clear hf
                  go_wp2_with (go_at_call 90; refine Calls.mono (C.out _ HB8.out) ?_; rintro e w9 ⟨best, rfl, q1, q2⟩; obtain rfl : best = 2000000 := q1.none HF.out; rw [show decide ((2000000 : Int) < 2000000) = false from rfl]; have HB9 := Lib.hid q2; clear q1 q2)
                  go_meet
                  exact ⟨rfl, HB9.out⟩
            case rest => as_aux_lemma =>
              obtain ⟨rfl, hb7⟩ := hcut
              have HX := Lib.hid (HX8.out.below hb7)
              have HQP := Lib.hid (HQP8.out.below hb7)
              have HB := Lib.hid (HB8.out.trans (hb7.mono HB8.out.size))
              clear HX8 HQP8 HB8 HQF hb7
              have e0 := HX.out.at0
              have e1 := HX.out.at1
              have e2 := HX.out.at2
              have l0 := HX.out.lt
              have C2 := Lib.hid (fun W b (h : BoxS b x W) => rSlots_any size [x] (some ⟨b, 0, none⟩) 1 1 W rfl (by simp) h.slots)
              rcases HQP.out with ⟨hx, rfl, rfl⟩ | ⟨hx, rfl, rfl, rfl⟩ | ⟨hx, hn, ho, rfl, rfl⟩ | ⟨hx, hn, ho, rfl, rfl, hv⟩
              · have hb2 : (slotsE size [x] != 0) = true := by simpa using hx
                obtain ⟨z, hz⟩ : ∃ z, slotsE size [x] = z := ⟨_, rfl⟩
                rw [hz] at hb2
                simp only [hz] at C2
                clear hx
                rw [hz]
                clear hz
                go_wp2_with (go_at_call 85; refine Calls.mono (C2.out _ _ (BoxS.new x wc _)) ?_; rintro e w9 ⟨rfl, h1⟩; have HB9 := Lib.hid ((HB.out.alloc HB.out.size _).trans (h1.mono (HB.out.alloc HB.out.size _).size)); clear h1)
                go_ret
                exact ⟨rfl, HB9.out⟩
              · simp only [hx] at C2
                go_wp2_with (go_at_call 85; refine Calls.mono (C2.out _ _ (BoxS.new x wc _)) ?_; rintro e w9 ⟨rfl, h1⟩; have HB9 := Lib.hid ((HB.out.alloc HB.out.size _).trans (h1.mono (HB.out.alloc HB.out.size _).size)); clear h1)
                go_ret
                exact ⟨rfl, HB9.out⟩
              · simp only [hx] at C2
                have h100 : ((n : Int) == 100) = false := by simp; omega
                have HMR : Hid (slotsE size (L ++ [x]) = 10) := Lib.hid (by rw [slots_more HE.out hx (by have := HN.out; omega), ho]; rfl)
                go_upto_region 31 with (go_at_call 85; refine Calls.mono (C2.out _ _ (BoxS.new x wc _)) ?_; rintro e w2 ⟨rfl, h1⟩; have HB2 := Lib.hid ((HB.out.alloc HB.out.size _).trans (h1.mono (HB.out.alloc HB.out.size _).size)); have HWX := Lib.hid (((Below.refl wc.heap.size wc).alloc (Nat.le_refl _) _).trans (h1.mono (by simp))); clear h1)
                have HX2 := Lib.hid (HX.out.below HWX.out)
                clear e0 e1 e2 l0
                have HDX : Hid (∀ W, UpB w2 W → W.cell? ⟨c, 0, none⟩ = some (.int .i64 x.fr) ∧ W.cell? ⟨c, 1, none⟩ = some (.int .i64 x.to) ∧ W.cell? ⟨c, 2, none⟩ = some (.int .i64 x.n)) := Lib.hid (fun W h => by
                  have := HX2.out.below h.bel
                  exact ⟨this.at0, this.at1, this.at2⟩)
                have HCLN : Hid (∀ W, UpB w2 W → Calls Try.prog 91 #[.slice a n cap] W fun e w' => ∃ v, e = .returned v ∧ w'.ownsRow w2.heap.size 130 3 v n (slc L) ∧ Below W.heap.size W w') := Lib.hid (fun W h => (cloneSl_any L a n cap W HN.out (by omega) ((HLW.out _ HB2.out).below h.bel (Nat.le_refl _))).mono fun e w' h2 => by
                  obtain ⟨v, q1, q2, q3⟩ := h2
                  exact ⟨v, q1, ownsRow_low q2 h.bel.size, q3⟩)
                have HSN := Lib.hid (slc_snoc L x)
                have H63 : Hid (n + 1 ≤ maxLen) := Lib.hid (by unfold maxLen; omega)
                have HBY : Hid ((n + 1) * 24 ≤ 140737488355328) := Lib.hid (by omega)
                have HCF : Hid (∀ W g cp, W.ownsRow w2.heap.size 130 3 (.slice (some ⟨g, 0, none⟩) (n + 1) cp) (n + 1) (slc (L ++ [x])) → Calls Try.prog 85 #[.int .i64 size, .slice (some ⟨g, 0, none⟩) (n + 1) cp] W fun e w' => e = .returned (.int .i64 10) ∧ Below W.heap.size W w') := Lib.hid (fun W g cp ho => by
                  obtain ⟨a', c', e, hv⟩ := owned_slots ho
                  have := rSlots_any size (L ++ [x]) (some ⟨g, 0, none⟩) (n + 1) cp W (by simp [HN.out]) (by omega) (by cases e; exact Slots.of hv)
                  rw [HMR.out] at this
                  exact this)
                go_region_held3 (fun W => W.cell? ⟨c, 0, none⟩ = some (.int .i64 x.fr) ∧ W.cell? ⟨c, 1, none⟩ = some (.int .i64 x.to) ∧ W.cell? ⟨c, 2, none⟩ = some (.int .i64 x.n))
                  (exact HDX.out _ (by repeat (first | exact UpB.refl | exact HU3.out | exact HU4.out | refine UpB.alloc _ ?_ | refine UpB.drew ?_)))
                  (first
                    | (go_at_call 91; refine Calls.mono (HCLN.out _ (by repeat (first | exact UpB.refl | exact HU3.out | exact HU4.out | refine UpB.alloc _ ?_ | refine UpB.drew ?_))) ?_; rintro e w3 ⟨v3, rfl, ho, hb⟩; have HU3 := Lib.hid (UpB.call (w := w2) (by repeat (first | exact UpB.refl | refine UpB.alloc _ ?_ | refine UpB.drew ?_)) hb); have HO3 := Lib.hid (fun W (h : UpB w3 W) => h.own ho); have HKB := Lib.hid (fun (k : Nat) (o : Obj) h => keepB hb (k := k) (o := o) h); clear ho hb)
                    | (refine stepPushN _ rfl (.tmp 239) (.tmp 241) 128 (by rfl) w2.heap.size 130 (.agg #[.int .i64 0, .int .i64 0, .int .i64 0]) 3 24 Try.underlying128 infoSlot (by rfl) (by decide) v3 n (slc L) (by simp [go_sem]) (HO3.out _ (by repeat (first | exact UpB.refl | refine UpB.alloc _ ?_ | refine UpB.drew ?_))) w3.heap.size [.int .i64 x.fr, .int .i64 x.to, .int .i64 x.n] rfl (by simp [go_sem]) (heapAtB rfl) (one3 x) H63.out HBY.out ((show UpB w2 _ from (by repeat (first | exact UpB.refl | exact HU3.out | exact HU4.out | refine UpB.alloc _ ?_ | refine UpB.drew ?_))).bel.size) ?_; intro g4 cp4 w4 hown4 hgrow4; rw [HSN.out] at hown4; have HU4 := Lib.hid (UpB.base (w := w2) (by repeat (first | exact UpB.refl | exact HU3.out | refine UpB.alloc _ ?_ | refine UpB.drew ?_)) ((Below.refl _ _).grown hgrow4 ((show UpB w2 _ from (by repeat (first | exact UpB.refl | exact HU3.out | refine UpB.alloc _ ?_ | refine UpB.drew ?_))).bel.size) (ownBlock_ge (HO3.out _ (by repeat (first | exact UpB.refl | refine UpB.alloc _ ?_ | refine UpB.drew ?_))) (Nat.le_refl _)))); have HO4 := Lib.hid (fun W (h : UpB w4 W) => h.own hown4); clear hown4 hgrow4)
                    | (refine stepPushN _ rfl (.tmp 239) (.tmp 241) 128 (by rfl) w2.heap.size 130 (.agg #[.int .i64 0, .int .i64 0, .int .i64 0]) 3 24 Try.underlying128 infoSlot (by rfl) (by decide) v3 n (slc L) (by simp [go_sem]) (HO3.out _ (by repeat (first | exact UpB.refl | refine UpB.alloc _ ?_ | refine UpB.drew ?_))) w2.heap.size [.int .i64 x.fr, .int .i64 x.to, .int .i64 x.n] rfl (by simp [go_sem]) (HKB.out _ _ (heapAtB rfl)) (one3 x) H63.out HBY.out ((show UpB w2 _ from (by repeat (first | exact UpB.refl | exact HU3.out | exact HU4.out | refine UpB.alloc _ ?_ | refine UpB.drew ?_))).bel.size) ?_; intro g4 cp4 w4 hown4 hgrow4; rw [HSN.out] at hown4; have HU4 := Lib.hid (UpB.base (w := w2) (by repeat (first | exact UpB.refl | exact HU3.out | refine UpB.alloc _ ?_ | refine UpB.drew ?_)) ((Below.refl _ _).grown hgrow4 ((show UpB w2 _ from (by repeat (first | exact UpB.refl | exact HU3.out | refine UpB.alloc _ ?_ | refine UpB.drew ?_))).bel.size) (ownBlock_ge (HO3.out _ (by repeat (first | exact UpB.refl | refine UpB.alloc _ ?_ | refine UpB.drew ?_))) (Nat.le_refl _)))); have HO4 := Lib.hid (fun W (h : UpB w4 W) => h.own hown4); clear hown4 hgrow4)
                    | fail)
                all_goals
                  have HO5 := Lib.hid (HO4.out _ (by repeat (first | exact UpB.refl | refine UpB.alloc _ ?_ | refine UpB.drew ?_)))
                  have HB5 := Lib.hid (HB2.out.trans (HU4.out.bel.mono HB2.out.size))
                  go_wp2_with (go_at_call 85; refine Calls.mono (HCF.out _ _ _ HO5.out) ?_; rintro e w6 ⟨rfl, h1⟩; have HB6 := Lib.hid (HB5.out.trans (h1.mono HB5.out.size)); clear h1)
                  go_ret
                  exact ⟨rfl, HB6.out⟩
              · simp only [hx] at C2
                have h100 : ((n : Int) == 100) = false := by simp; omega
                have HMR : Hid (slotsE size (L ++ [x]) = 0) := Lib.hid (by rw [slots_more HE.out hx (by have := HN.out; omega), ho]; rfl)
                go_upto_region 31 with (go_at_call 85; refine Calls.mono (C2.out _ _ (BoxS.new x wc _)) ?_; rintro e w2 ⟨rfl, h1⟩; have HB2 := Lib.hid ((HB.out.alloc HB.out.size _).trans (h1.mono (HB.out.alloc HB.out.size _).size)); have HWX := Lib.hid (((Below.refl wc.heap.size wc).alloc (Nat.le_refl _) _).trans (h1.mono (by simp))); clear h1)
                have HX2 := Lib.hid (HX.out.below HWX.out)
                clear e0 e1 e2 l0
                have HDX : Hid (∀ W, UpB w2 W → W.cell? ⟨c, 0, none⟩ = some (.int .i64 x.fr) ∧ W.cell? ⟨c, 1, none⟩ = some (.int .i64 x.to) ∧ W.cell? ⟨c, 2, none⟩ = some (.int .i64 x.n)) := Lib.hid (fun W h => by
                  have := HX2.out.below h.bel
                  exact ⟨this.at0, this.at1, this.at2⟩)
                have HCLN : Hid (∀ W, UpB w2 W → Calls Try.prog 91 #[.slice a n cap] W fun e w' => ∃ v, e = .returned v ∧ w'.ownsRow w2.heap.size 130 3 v n (slc L) ∧ Below W.heap.size W w') := Lib.hid (fun W h => (cloneSl_any L a n cap W HN.out (by omega) ((HLW.out _ HB2.out).below h.bel (Nat.le_refl _))).mono fun e w' h2 => by
                  obtain ⟨v, q1, q2, q3⟩ := h2
                  exact ⟨v, q1, ownsRow_low q2 h.bel.size, q3⟩)
                have HSN := Lib.hid (slc_snoc L x)
                have H63 : Hid (n + 1 ≤ maxLen) := Lib.hid (by unfold maxLen; omega)
                have HBY : Hid ((n + 1) * 24 ≤ 140737488355328) := Lib.hid (by omega)
                have HCF : Hid (∀ W g cp, W.ownsRow w2.heap.size 130 3 (.slice (some ⟨g, 0, none⟩) (n + 1) cp) (n + 1) (slc (L ++ [x])) → Calls Try.prog 85 #[.int .i64 size, .slice (some ⟨g, 0, none⟩) (n + 1) cp] W fun e w' => e = .returned (.int .i64 0) ∧ Below W.heap.size W w') := Lib.hid (fun W g cp ho => by
                  obtain ⟨a', c', e, hv⟩ := owned_slots ho
                  have := rSlots_any size (L ++ [x]) (some ⟨g, 0, none⟩) (n + 1) cp W (by simp [HN.out]) (by omega) (by cases e; exact Slots.of hv)
                  rw [HMR.out] at this
                  exact this)
                have HVP := Lib.hid (hv.below HWX.out (Nat.le_refl _))
                have HSM : Hid (∀ W W' g cp, UpB w2 W → W.ownsRow w2.heap.size 130 3 (.slice (some ⟨g, 0, none⟩) (n + 1) cp) (n + 1) (slc (L ++ [x])) → Below W.heap.size W W' → Calls Try.prog 88 #[.slice p (n + 1) pc, .slice (some ⟨g, 0, none⟩) (n + 1) cp] W' fun e w' => e = .returned (.bool true) ∧ Below W'.heap.size W' w') := Lib.hid (fun W W' g cp hu ho hb => by
                  obtain ⟨a', c', e, hv2⟩ := owned_slots ho
                  cases e
                  exact rSame_any (L ++ [x]) p _ (n + 1) pc cp W' (by simp [HN.out]) (by omega) (Slots.of ((HVP.out.below hu.bel (Nat.le_refl _)).below hb (Nat.le_refl _))) (Slots.of (hv2.below hb (Nat.le_refl _))))
                clear hv
                go_region_held3 (fun W => W.cell? ⟨c, 0, none⟩ = some (.int .i64 x.fr) ∧ W.cell? ⟨c, 1, none⟩ = some (.int .i64 x.to) ∧ W.cell? ⟨c, 2, none⟩ = some (.int .i64 x.n))
                  (exact HDX.out _ (by repeat (first | exact UpB.refl | exact HU3.out | exact HU4.out | refine UpB.alloc _ ?_ | refine UpB.drew ?_)))
                  (first
                    | (go_at_call 91; refine Calls.mono (HCLN.out _ (by repeat (first | exact UpB.refl | exact HU3.out | exact HU4.out | refine UpB.alloc _ ?_ | refine UpB.drew ?_))) ?_; rintro e w3 ⟨v3, rfl, ho, hb⟩; have HU3 := Lib.hid (UpB.call (w := w2) (by repeat (first | exact UpB.refl | refine UpB.alloc _ ?_ | refine UpB.drew ?_)) hb); have HO3 := Lib.hid (fun W (h : UpB w3 W) => h.own ho); have HKB := Lib.hid (fun (k : Nat) (o : Obj) h => keepB hb (k := k) (o := o) h); clear ho hb)
                    | (refine stepPushN _ rfl (.tmp 239) (.tmp 241) 128 (by rfl) w2.heap.size 130 (.agg #[.int .i64 0, .int .i64 0, .int .i64 0]) 3 24 Try.underlying128 infoSlot (by rfl) (by decide) v3 n (slc L) (by simp [go_sem]) (HO3.out _ (by repeat (first | exact UpB.refl | refine UpB.alloc _ ?_ | refine UpB.drew ?_))) w3.heap.size [.int .i64 x.fr, .int .i64 x.to, .int .i64 x.n] rfl (by simp [go_sem]) (heapAtB rfl) (one3 x) H63.out HBY.out ((show UpB w2 _ from (by repeat (first | exact UpB.refl | exact HU3.out | exact HU4.out | refine UpB.alloc _ ?_ | refine UpB.drew ?_))).bel.size) ?_; intro g4 cp4 w4 hown4 hgrow4; rw [HSN.out] at hown4; have HU4 := Lib.hid (UpB.base (w := w2) (by repeat (first | exact UpB.refl | exact HU3.out | refine UpB.alloc _ ?_ | refine UpB.drew ?_)) ((Below.refl _ _).grown hgrow4 ((show UpB w2 _ from (by repeat (first | exact UpB.refl | exact HU3.out | refine UpB.alloc _ ?_ | refine UpB.drew ?_))).bel.size) (ownBlock_ge (HO3.out _ (by repeat (first | exact UpB.refl | refine UpB.alloc _ ?_ | refine UpB.drew ?_))) (Nat.le_refl _)))); have HO4 := Lib.hid (fun W (h : UpB w4 W) => h.own hown4); clear hown4 hgrow4)
                    | (refine stepPushN _ rfl (.tmp 239) (.tmp 241) 128 (by rfl) w2.heap.size 130 (.agg #[.int .i64 0, .int .i64 0, .int .i64 0]) 3 24 Try.underlying128 infoSlot (by rfl) (by decide) v3 n (slc L) (by simp [go_sem]) (HO3.out _ (by repeat (first | exact UpB.refl | refine UpB.alloc _ ?_ | refine UpB.drew ?_))) w2.heap.size [.int .i64 x.fr, .int .i64 x.to, .int .i64 x.n] rfl (by simp [go_sem]) (HKB.out _ _ (heapAtB rfl)) (one3 x) H63.out HBY.out ((show UpB w2 _ from (by repeat (first | exact UpB.refl | exact HU3.out | exact HU4.out | refine UpB.alloc _ ?_ | refine UpB.drew ?_))).bel.size) ?_; intro g4 cp4 w4 hown4 hgrow4; rw [HSN.out] at hown4; have HU4 := Lib.hid (UpB.base (w := w2) (by repeat (first | exact UpB.refl | exact HU3.out | refine UpB.alloc _ ?_ | refine UpB.drew ?_)) ((Below.refl _ _).grown hgrow4 ((show UpB w2 _ from (by repeat (first | exact UpB.refl | exact HU3.out | refine UpB.alloc _ ?_ | refine UpB.drew ?_))).bel.size) (ownBlock_ge (HO3.out _ (by repeat (first | exact UpB.refl | refine UpB.alloc _ ?_ | refine UpB.drew ?_))) (Nat.le_refl _)))); have HO4 := Lib.hid (fun W (h : UpB w4 W) => h.own hown4); clear hown4 hgrow4)
                    | fail)
                all_goals
                  have HO5 := Lib.hid (HO4.out _ (by repeat (first | exact UpB.refl | refine UpB.alloc _ ?_ | refine UpB.drew ?_)))
                  have HB5 := Lib.hid (HB2.out.trans (HU4.out.bel.mono HB2.out.size))
                  go_wp2_with (first
                    | (go_at_call 85; refine Calls.mono (HCF.out _ _ _ HO5.out) ?_; rintro e w6 ⟨rfl, h1⟩; have HB6 := Lib.hid (HB5.out.trans (h1.mono HB5.out.size)); have HC7 := Lib.hid (HSM.out _ _ _ _ (by repeat (first | exact HU4.out | exact UpB.refl | refine UpB.alloc _ ?_ | refine UpB.drew ?_)) HO5.out h1); clear h1)
                    | (go_at_call 88; refine Calls.mono HC7.out ?_; rintro e w7 ⟨rfl, h1⟩; have HB7 := Lib.hid (HB6.out.trans (h1.mono HB6.out.size)); clear h1))
                  go_ret
                  exact ⟨rfl, HB7.out⟩
end Go.Proofs.Ytfjoakhcgpckgaa
