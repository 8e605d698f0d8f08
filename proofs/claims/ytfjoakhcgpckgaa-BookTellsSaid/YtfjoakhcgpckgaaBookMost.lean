/- Contract: the most that is booked; the program's. -/
import Derived.Test.YtfjoakhcgpckgaaBookRef
namespace Go.Proofs.Ytfjoakhcgpckgaa
open Go.ChangeShapes Go.WideShapes Go.ChangeAt Go.RowKit
set_option linter.unusedVariables false
open Bk
namespace Bk
/-- what the loop over the steps knows behind i of them -/
structure TopS (L : List Sl) (P : List Int) (a b : Int) (i : Nat) (m : Int) : Prop where
  is : m = 0 ∨ ∃ t, a ≤ t ∧ t < b ∧ bk L t = m
  pos : 0 ≤ m
  all : ∀ t p, a ≤ t → t < b → P[i]? = some p → t < p → bk L t ≤ m
theorem TopS.zero {L : List Sl} {P : List Int} {a b : Int} (h : IsPts L P) (hS : Sane L) (ha : 0 ≤ a) : TopS L P a b 0 0 := ⟨.inl rfl, Int.le_refl _, fun t p h1 h2 h3 h4 => by
  rw [h.first hS] at h3
  cases h3
  omega⟩
theorem TopS.skip {L : List Sl} {P : List Int} {a b m p q : Int} {i : Nat} (h : TopS L P a b i m) (hP : IsPts L P) (hn : NextP P i p q) (hc : ¬ (p < b ∧ a < q)) : TopS L P a b (i + 1) m := ⟨h.is, h.pos, fun t x h1 h2 h3 h4 => by
  rw [hn.two] at h3
  cases h3
  by_cases htp : t < p
  · exact h.all t p h1 h2 hn.one htp
  · exact absurd ⟨by omega, by omega⟩ hc⟩
theorem TopS.take {L : List Sl} {P : List Int} {a b m p q v : Int} {i : Nat} (h : TopS L P a b i m) (hP : IsPts L P) (hn : NextP P i p q) (hab : a < b) (h1 : p < b) (h2 : a < q) (hv : bk L p = v) (hv0 : 0 ≤ v) : TopS L P a b (i + 1) (max m v) := by
  have hpq := hP.lt hn.one hn.two (by omega)
  refine ⟨?_, by omega, fun t x g1 g2 g3 g4 => ?_⟩
  · by_cases hc : m ≤ v
    · refine .inr ⟨max a p, by omega, by omega, ?_⟩
      rw [hP.const hn (by omega) (by omega), hv]
      omega
    · rw [show max m v = m from by omega]; exact h.is
  · rw [hn.two] at g3
    cases g3
    by_cases htp : t < p
    · have := h.all t p g1 g2 hn.one htp
      omega
    · rw [hP.const hn (by omega) g4, hv]
      omega
theorem TopS.done {L : List Sl} {P : List Int} {a b m : Int} (h : TopS L P a b (P.length - 1) m) (hP : IsPts L P) (hS : Sane L) (hl : L.length ≤ 101) (hab : a < b) (hb : b ≤ 1000000) : IsMost L a b m := by
  have hall : ∀ t, a ≤ t → t < b → bk L t ≤ m := fun t h1 h2 => h.all t 1000000 h1 h2 (hP.last hS) (by omega)
  refine ⟨hall, ?_⟩
  rcases h.is with e | e
  · have h1 := hall a (Int.le_refl _) hab
    have h2 := (bk_small' hS hl a).1
    exact ⟨a, Int.le_refl _, hab, by omega⟩
  · exact e
end Bk
theorem bMost_bad (size : Int) (L : List Sl) (x y : Int) (a : Option Addr) (n cap : Nat) (w : World) (hn : n = L.length) (hmax : n ≤ 9223372036854775807) (hL : Slots w a L) (hb : slotsE size L ≠ 0) :
    Calls Try.prog 81 #[.int .i64 size, .slice a n cap, .int .i64 x, .int .i64 y] w fun e w' => e = .returned (.tuple #[.int .i64 0, .int .i64 (slotsE size L)]) ∧ Below w.heap.size w w' := by
  have C := Lib.hid (bCheck_any size L a n cap w hn hmax hL)
  obtain ⟨z, hz⟩ : ∃ z, slotsE size L = z := ⟨_, rfl⟩
  rw [hz] at C hb ⊢
  have hb2 : (z != 0) = true := by simpa using hb
  clear hL hn hz
  go_enter Try.func81, Try.ntmps81
  go_wp2_with (go_at_call 86; refine Calls.mono C.out ?_; rintro e w1 ⟨rfl, h1⟩; have HB := Lib.hid h1; clear h1)
  go_ret2
  exact ⟨rfl, HB.out⟩
theorem bMost_range (size : Int) (L : List Sl) (x y : Int) (a : Option Addr) (n cap : Nat) (w : World) (hn : n = L.length) (hmax : n ≤ 9223372036854775807) (hL : Slots w a L) (hb : slotsE size L = 0) (hr : x < 0 ∨ y ≤ x ∨ 1000000 < y) :
    Calls Try.prog 81 #[.int .i64 size, .slice a n cap, .int .i64 x, .int .i64 y] w fun e w' => e = .returned (.tuple #[.int .i64 0, .int .i64 4]) ∧ Below w.heap.size w w' := by
  have C := Lib.hid (bCheck_any size L a n cap w hn hmax hL)
  rw [hb] at C
  have hcase : x < 0 ∨ (0 ≤ x ∧ y ≤ x) ∨ (0 ≤ x ∧ x < y ∧ 1000000 < y) := by omega
  clear hL hn hb hr
  rcases hcase with p1 | ⟨p1, p2⟩ | ⟨p1, p2, p3⟩
  all_goals
    go_enter Try.func81, Try.ntmps81
    go_wp2_with (go_at_call 86; refine Calls.mono C.out ?_; rintro e w1 ⟨rfl, h1⟩; have HB := Lib.hid h1; clear h1)
    go_ret2
    exact ⟨rfl, HB.out⟩
set_option maxRecDepth 20000 in
set_option maxHeartbeats 4000000 in
theorem bMost_good (size : Int) (L : List Sl) (x y : Int) (a : Option Addr) (n cap : Nat) (w : World) (hn : n = L.length) (hmax : n ≤ 9223372036854775807) (hL : Slots w a L) (hb : slotsE size L = 0) (h0 : 0 ≤ x) (hxy : x < y) (hy : y ≤ 1000000) :
    Calls Try.prog 81 #[.int .i64 size, .slice a n cap, .int .i64 x, .int .i64 y] w fun e w' => ∃ m, e = .returned (.tuple #[.int .i64 m, .int .i64 0]) ∧ IsMost L x y m ∧ Below w.heap.size w w' := by
  obtain ⟨g1, g2, g3, g4, _, _⟩ := slotsE_good hb
  have C := Lib.hid (bCheck_any size L a n cap w hn hmax hL)
  rw [hb] at C
  have HN := Lib.hid hn
  have HS := Lib.hid g4
  have HL := Lib.hid hL
  have hl : n ≤ 100 := by omega
  have HT0 := Lib.hid (TopS.zero (b := y) (pts_ok L) g4 h0)
  clear hn hL hb g4 g3
  go_enter Try.func81, Try.ntmps81
  go_upto_region 8 with (first
    | (go_at_call 86; refine Calls.mono C.out ?_; rintro e w1 ⟨rfl, h1⟩; have HB1 := Lib.hid h1; clear h1)
    | (go_at_call 161; refine Calls.mono (steps_any L a n cap _ HN.out (by omega) HS.out (HL.out.below HB1.out (Nat.le_refl _))) ?_; rintro e w2 ⟨g, k, cp, rfl, h1, h2⟩; have HT := Lib.hid h1; have HB := Lib.hid (HB1.out.trans (h2.mono HB1.out.size)); clear h1 h2))
  obtain ⟨k, rfl⟩ : ∃ m, k = m + 1 := ⟨k - 1, by have := HT.out.two; omega⟩
  have hk := HT.out.two
  have hcp := HT.out.cap
  have hw : IntKind.i64.wrap (((k + 1 : Nat) : Int) - 1) = (k : Int) := by rw [IntWalk.i64_in _ (by omega)]; omega
  have hi1 : (0 : Int) ≤ (k : Int) := by omega
  have hi2 : (k : Int) ≤ (cp : Int) := by omega
  go_wp2_with fail
  go_loopg [11, 40] k (fun gk u v wr => ∃ (i : Nat) (m : Int), i + gk = k ∧ v = .int .i64 (i : Int) ∧ u = .int .i64 m ∧ Hid (TopS L (pts L) x y i m) ∧ Hid (Below w2.heap.size w2 wr))
  case atStart => exact ⟨0, 0, by omega, rfl, rfl, HT0, Lib.hid (Below.refl _ _)⟩
  case round =>
    clear HT0
    obtain ⟨i, m, hi, rfl, rfl, HM, HB2⟩ := hrel
    by_cases hik : i < k
    · obtain ⟨p, hp⟩ : ∃ x, (pts L)[i]? = some x := ⟨_, List.getElem?_eq_getElem (by have := HT.out.len; omega)⟩
      obtain ⟨q, hq⟩ : ∃ x, (pts L)[i + 1]? = some x := ⟨_, List.getElem?_eq_getElem (by have := HT.out.len; omega)⟩
      obtain ⟨q0, q1⟩ := (HT.out.below HB2.out).cell i p hp
      obtain ⟨q2, _⟩ := (HT.out.below HB2.out).cell (i + 1) q hq
      have lg := (HT.out.below HB2.out).lt
      obtain ⟨v, hv⟩ : ∃ v, bk L p = v := ⟨_, rfl⟩
      have hvb := bk_small' HS.out (by have := HN.out; omega) p
      rw [hv] at q1 hvb
      have HX : Hid (NextP (pts L) i p q) := Lib.hid ⟨hp, hq⟩
      have HV := Lib.hid hv
      have hq1 : (0 : Int) ≤ (i : Int) := by omega
      have hq2 : (i : Int) < (k : Int) := by omega
      have hw3 : IntKind.i64.wrap ((i : Int) + 1) = (i : Int) + 1 := IntWalk.i64_in _ (by omega)
      have hq3 : (0 : Int) ≤ (i : Int) + 1 := by omega
      have hq4 : (i : Int) + 1 < ((k + 1 : Nat) : Int) := by omega
      clear hp hq hv
      go_upto_region 11 with fail
      obtain ⟨W2, hW2⟩ : ∃ W, W = wr.alloc (.cells #[.int .i64 p, .int .i64 v] 222) := ⟨_, rfl⟩
      rw [← hW2]
      obtain ⟨c, hc⟩ : ∃ c, c = wr.heap.size := ⟨_, rfl⟩
      have d0 : W2.cell? ⟨c, 0, none⟩ = some (.int .i64 p) := by rw [hW2, hc]; simp
      have d1 : W2.cell? ⟨c, 1, none⟩ = some (.int .i64 v) := by rw [hW2, hc]; simp
      have l0 : c < W2.heap.size := by rw [hW2, hc]; simp
      have HB4 : Hid (Below wr.heap.size wr W2) := Lib.hid (by rw [hW2]; exact (Below.refl _ _).alloc (Nat.le_refl _) _)
      have e2 := (HB4.out.cell (p := ⟨g, (i + 1) * 2, none⟩) lg).trans q2
      have lg2 : g < W2.heap.size := Nat.lt_of_lt_of_le lg HB4.out.size
      have HB5 := Lib.hid (HB2.out.trans (HB4.out.mono HB2.out.size))
      rw [← hc]
      clear hW2 hc q0 q1 q2
      by_cases h1 : p < y
      · by_cases h2 : x < q
        · have HQ := Lib.hid (HM.out.take (pts_ok L) HX.out hxy h1 h2 HV.out hvb.1)
          go_wp2_with fail
          go_roundg (k - (i + 1))
          case measure => omega
          case rel => exact ⟨i + 1, max m v, by omega, by simp, rfl, HQ, HB5⟩
        · have HQ := Lib.hid (HM.out.skip (pts_ok L) HX.out (fun h => h2 h.2))
          go_wp2_with fail
          go_roundg (k - (i + 1))
          case measure => omega
          case rel => exact ⟨i + 1, m, by omega, by simp, rfl, HQ, HB5⟩
      · have HQ := Lib.hid (HM.out.skip (pts_ok L) HX.out (fun h => h1 h.1))
        go_wp2_with fail
        go_roundg (k - (i + 1))
        case measure => omega
        case rel => exact ⟨i + 1, m, by omega, by simp, rfl, HQ, HB5⟩
    · obtain rfl : i = k := by omega
      have HD : Hid (IsMost L x y m) := Lib.hid (by
        refine TopS.done (P := pts L) ?_ (pts_ok L) HS.out (by have := HN.out; omega) hxy hy
        rw [← HT.out.len]
        exact HM.out)
      go_wp2_with fail
      go_ret2
      exact ⟨m, rfl, HD.out, HB.out.trans (HB2.out.mono HB.out.size)⟩
end Go.Proofs.Ytfjoakhcgpckgaa
