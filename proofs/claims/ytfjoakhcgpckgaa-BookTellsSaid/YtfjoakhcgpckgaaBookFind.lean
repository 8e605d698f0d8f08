/- Contracts: the gaps of slots, a time that is found; the program's. -/
import Derived.Test.YtfjoakhcgpckgaaBookGaps
namespace Go.Proofs.Ytfjoakhcgpckgaa
open Go.ChangeShapes Go.WideShapes Go.ChangeAt Go.RowKit
set_option linter.unusedVariables false
open Bk
theorem bGaps_bad (size nd : Int) (L : List Sl) (a : Option Addr) (n cap : Nat) (w : World) (hn : n = L.length) (hmax : n ≤ 9223372036854775807) (hL : Slots w a L) (hb : slotsE size L ≠ 0) :
    Calls Try.prog 84 #[.int .i64 size, .slice a n cap, .int .i64 nd] w fun e w' => e = .returned (.tuple #[.slice none 0 0, .int .i64 (slotsE size L)]) ∧ Below w.heap.size w w' := by
  have C := Lib.hid (bCheck_any size L a n cap w hn hmax hL)
  obtain ⟨z, hz⟩ : ∃ z, slotsE size L = z := ⟨_, rfl⟩
  rw [hz] at C hb ⊢
  have hb2 : (z != 0) = true := by simpa using hb
  clear hL hn hz
  go_enter Try.func84, Try.ntmps84
  go_wp2_with (go_at_call 86; refine Calls.mono C.out ?_; rintro e w1 ⟨rfl, h1⟩; have HB := Lib.hid h1; clear h1)
  go_ret2
  exact ⟨rfl, HB.out⟩
theorem bGaps_range (size nd : Int) (L : List Sl) (a : Option Addr) (n cap : Nat) (w : World) (hn : n = L.length) (hmax : n ≤ 9223372036854775807) (hL : Slots w a L) (hb : slotsE size L = 0) (hr : nd < 1 ∨ size < nd) :
    Calls Try.prog 84 #[.int .i64 size, .slice a n cap, .int .i64 nd] w fun e w' => e = .returned (.tuple #[.slice none 0 0, .int .i64 4]) ∧ Below w.heap.size w w' := by
  have C := Lib.hid (bCheck_any size L a n cap w hn hmax hL)
  rw [hb] at C
  have hcase : nd < 1 ∨ (1 ≤ nd ∧ size < nd) := by omega
  clear hL hn hb hr
  rcases hcase with p1 | ⟨p1, p2⟩
  all_goals
    go_enter Try.func84, Try.ntmps84
    go_wp2_with (go_at_call 86; refine Calls.mono C.out ?_; rintro e w1 ⟨rfl, h1⟩; have HB := Lib.hid h1; clear h1)
    go_ret2
    exact ⟨rfl, HB.out⟩
theorem bGaps_good (size nd : Int) (L : List Sl) (a : Option Addr) (n cap : Nat) (w : World) (hn : n = L.length) (hmax : n ≤ 9223372036854775807) (hL : Slots w a L) (hb : slotsE size L = 0) (p1 : 1 ≤ nd) (p2 : nd ≤ size) :
    Calls Try.prog 84 #[.int .i64 size, .slice a n cap, .int .i64 nd] w fun e w' => ∃ ga m gc, e = .returned (.tuple #[.slice ga m gc, .int .i64 0]) ∧ m = (gapsOf size nd L).length ∧ m ≤ 204 ∧ Vals w' ga (slc (gapsOf size nd L)) ∧ Below w.heap.size w w' := by
  obtain ⟨g1, g2, g3, g4, _, _⟩ := slotsE_good hb
  have C := Lib.hid (bCheck_any size L a n cap w hn hmax hL)
  rw [hb] at C
  have HN := Lib.hid hn
  have HS := Lib.hid g4
  have HL := Lib.hid hL
  have hl : n ≤ 100 := by omega
  clear hL hn hb g4 g3
  go_enter Try.func84, Try.ntmps84
  go_wp2_with (first
    | (go_at_call 86; refine Calls.mono C.out ?_; rintro e w1 ⟨rfl, h1⟩; have HB1 := Lib.hid h1; clear h1)
    | (go_at_call 162; refine Calls.mono (gaps_any size nd L a n cap _ HN.out (by omega) HS.out (HL.out.below HB1.out (Nat.le_refl _)) g1 g2) ?_; rintro e w2 ⟨ga, m, gc, rfl, h1, h2, h3, h4⟩; have HM := Lib.hid h1; have HV := Lib.hid h3; have HB := Lib.hid (HB1.out.trans (h4.mono HB1.out.size)); clear h1 h3 h4))
  go_ret2
  exact ⟨ga, m, gc, rfl, HM.out, h2, HV.out, HB.out⟩
theorem bFind_bad (size nd long after : Int) (L : List Sl) (a : Option Addr) (n cap : Nat) (w : World) (hn : n = L.length) (hmax : n ≤ 9223372036854775807) (hL : Slots w a L) (hb : slotsE size L ≠ 0) :
    Calls Try.prog 82 #[.int .i64 size, .slice a n cap, .int .i64 nd, .int .i64 long, .int .i64 after] w fun e w' => e = .returned (.tuple #[.int .i64 0, .int .i64 (slotsE size L)]) ∧ Below w.heap.size w w' := by
  have C := Lib.hid (bCheck_any size L a n cap w hn hmax hL)
  obtain ⟨z, hz⟩ : ∃ z, slotsE size L = z := ⟨_, rfl⟩
  rw [hz] at C hb ⊢
  have hb2 : (z != 0) = true := by simpa using hb
  clear hL hn hz
  go_enter Try.func82, Try.ntmps82
  go_wp2_with (go_at_call 86; refine Calls.mono C.out ?_; rintro e w1 ⟨rfl, h1⟩; have HB := Lib.hid h1; clear h1)
  go_ret2
  exact ⟨rfl, HB.out⟩
theorem bFind_range (size nd long after : Int) (L : List Sl) (a : Option Addr) (n cap : Nat) (w : World) (hn : n = L.length) (hmax : n ≤ 9223372036854775807) (hL : Slots w a L) (hb : slotsE size L = 0) (hr : nd < 1 ∨ size < nd ∨ long < 1 ∨ 1000000 < long ∨ after < 0 ∨ 1000000 < after) :
    Calls Try.prog 82 #[.int .i64 size, .slice a n cap, .int .i64 nd, .int .i64 long, .int .i64 after] w fun e w' => e = .returned (.tuple #[.int .i64 0, .int .i64 4]) ∧ Below w.heap.size w w' := by
  have C := Lib.hid (bCheck_any size L a n cap w hn hmax hL)
  rw [hb] at C
  have hcase : nd < 1 ∨ (1 ≤ nd ∧ size < nd) ∨ (1 ≤ nd ∧ nd ≤ size ∧ long < 1) ∨ (1 ≤ nd ∧ nd ≤ size ∧ 1 ≤ long ∧ 1000000 < long) ∨ (1 ≤ nd ∧ nd ≤ size ∧ 1 ≤ long ∧ long ≤ 1000000 ∧ after < 0) ∨ (1 ≤ nd ∧ nd ≤ size ∧ 1 ≤ long ∧ long ≤ 1000000 ∧ 0 ≤ after ∧ 1000000 < after) := by omega
  clear hL hn hb hr
  rcases hcase with p1 | ⟨p1, p2⟩ | ⟨p1, p2, p3⟩ | ⟨p1, p2, p3, p4⟩ | ⟨p1, p2, p3, p4, p5⟩ | ⟨p1, p2, p3, p4, p5, p6⟩
  all_goals
    go_enter Try.func82, Try.ntmps82
    go_wp2_with (go_at_call 86; refine Calls.mono C.out ?_; rintro e w1 ⟨rfl, h1⟩; have HB := Lib.hid h1; clear h1)
    go_ret2
    exact ⟨rfl, HB.out⟩
/-- what Find tells -/
def FoundP (size nd : Int) (L : List Sl) (long after t z : Int) : Prop := (z = 0 ∧ IsFound size nd L long after t) ∨ (z = 5 ∧ t = 0 ∧ ∀ t', ¬ Fit size nd L long after t')
set_option maxRecDepth 20000 in
set_option maxHeartbeats 4000000 in
theorem bFind_good (size nd long after : Int) (L : List Sl) (a : Option Addr) (n cap : Nat) (w : World) (hn : n = L.length) (hmax : n ≤ 9223372036854775807) (hL : Slots w a L) (hb : slotsE size L = 0) (p1 : 1 ≤ nd) (p2 : nd ≤ size) (p3 : 1 ≤ long) (p4 : long ≤ 1000000) (p5 : 0 ≤ after) (p6 : after ≤ 1000000) :
    Calls Try.prog 82 #[.int .i64 size, .slice a n cap, .int .i64 nd, .int .i64 long, .int .i64 after] w fun e w' => ∃ t z, e = .returned (.tuple #[.int .i64 t, .int .i64 z]) ∧ FoundP size nd L long after t z ∧ Below w.heap.size w w' := by
  obtain ⟨g1, g2, g3, g4, _, _⟩ := slotsE_good hb
  have C := Lib.hid (bCheck_any size L a n cap w hn hmax hL)
  rw [hb] at C
  have HN := Lib.hid hn
  have HS := Lib.hid g4
  have HL := Lib.hid hL
  have hl : n ≤ 100 := by omega
  have HGI := Lib.hid (gapsOf_inv (size := size) (n := nd) g4)
  obtain ⟨G, hG⟩ : ∃ G, gapsOf size nd L = G := ⟨_, rfl⟩
  rw [hG] at HGI
  have HG := Lib.hid hG
  have HT0 := Lib.hid (Short.zero G long after)
  clear hn hL hb g4 g3 hG
  go_enter Try.func82, Try.ntmps82
  go_wp2_with (first
    | (go_at_call 86; refine Calls.mono C.out ?_; rintro e w1 ⟨rfl, h1⟩; have HB1 := Lib.hid h1; clear h1)
    | (go_at_call 162; refine Calls.mono (gaps_any size nd L a n cap _ HN.out (by omega) HS.out (HL.out.below HB1.out (Nat.le_refl _)) g1 g2) ?_; rintro e w2 ⟨ga, m, gc, rfl, h1, h2, h3, h4⟩; rw [HG.out] at h1 h3; have HM := Lib.hid h1; have HV := Lib.hid (Slots.of h3); have HB := Lib.hid (HB1.out.trans (h4.mono HB1.out.size)); clear h1 h3 h4))
  go_loopg [50] m (fun gk u wr => ∃ (i : Nat), i + gk = m ∧ u = .int .i64 (i : Int) ∧ Hid (Short G long after i) ∧ Hid (Below w2.heap.size w2 wr))
  case atStart => exact ⟨0, by omega, rfl, HT0, Lib.hid (Below.refl _ _)⟩
  case round =>
    clear HT0
    obtain ⟨i, hi, rfl, HS1, HB2⟩ := hrel
    by_cases hik : i < m
    · obtain ⟨s, hs⟩ : ∃ x, G[i]? = some x := ⟨_, List.getElem?_eq_getElem (by have := HM.out; omega)⟩
      obtain ⟨b, off, rfl, hb, hat⟩ := HV.out (by have := HM.out; omega)
      obtain ⟨q0, q1, q2⟩ := (hat.below HB2.out hb) i s hs
      have hbr : b < wr.heap.size := Nat.lt_of_lt_of_le hb HB2.out.size
      have HX := Lib.hid hs
      have hok := HGI.out.ok s (List.mem_of_getElem? hs)
      have hq1 : (0 : Int) ≤ (i : Int) := by omega
      have hq2 : (i : Int) < (m : Int) := by omega
      clear hat hs
      go_upto_region 9 with fail
      obtain ⟨W2, hW2⟩ : ∃ W, W = wr.alloc (.cells #[.int .i64 s.fr, .int .i64 s.to, .int .i64 s.n] 130) := ⟨_, rfl⟩
      rw [← hW2]
      obtain ⟨c, hc⟩ : ∃ c, c = wr.heap.size := ⟨_, rfl⟩
      have d0 : W2.cell? ⟨c, 0, none⟩ = some (.int .i64 s.fr) := by rw [hW2, hc]; simp
      have d1 : W2.cell? ⟨c, 1, none⟩ = some (.int .i64 s.to) := by rw [hW2, hc]; simp
      have l0 : c < W2.heap.size := by rw [hW2, hc]; simp
      have HB4 : Hid (Below wr.heap.size wr W2) := Lib.hid (by rw [hW2]; exact (Below.refl _ _).alloc (Nat.le_refl _) _)
      have HB5 := Lib.hid (HB2.out.trans (HB4.out.mono HB2.out.size))
      obtain ⟨t, ht⟩ : ∃ t, max s.fr after = t := ⟨_, rfl⟩
      have htb : 0 ≤ t ∧ t ≤ 1000000 := by omega
      have hw : IntKind.i64.wrap (t + long) = t + long := IntWalk.i64_in _ (by omega)
      have HTT := Lib.hid ht
      rw [← hc]
      clear hW2 hc q0 q1 q2
      by_cases h1 : t + long ≤ s.to
      · have HF : Hid (IsFound size nd L long after t) := Lib.hid (by
          have := HGI.out.found HS.out p5 p3 HS1.out HX.out (by rw [HTT.out]; exact h1)
          rwa [HTT.out] at this)
        go_wp2_with fail
        go_ret2
        exact ⟨t, 0, rfl, .inl ⟨rfl, HF.out⟩, HB.out.trans (HB5.out.mono HB.out.size)⟩
      · have HQ := Lib.hid (HS1.out.succ HX.out (by rw [HTT.out]; exact h1))
        go_wp2_with fail
        go_roundg (m - (i + 1))
        case measure => omega
        case rel => exact ⟨i + 1, by omega, by simp, HQ, HB5⟩
    · obtain rfl : i = m := by omega
      have HF : Hid (∀ t', ¬ Fit size nd L long after t') := Lib.hid (HGI.out.none p5 p3 (HM.out ▸ HS1.out))
      go_wp2_with fail
      go_ret2
      exact ⟨0, 5, rfl, .inr ⟨rfl, rfl, HF.out⟩, HB.out.trans (HB2.out.mono HB.out.size)⟩
end Go.Proofs.Ytfjoakhcgpckgaa
