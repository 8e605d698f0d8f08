/- Contract: a share is split. -/
import Derived.Test.YtfjoakhcgpckgaaShareLevel
namespace Go.Proofs.Ytfjoakhcgpckgaa
open Go.ChangeShapes Go.WideShapes Go.ChangeAt Go.RowKit
set_option linter.unusedVariables false
open Sh
theorem infoI64 : (Try.prog.info? 2).map (fun i => (i.zero, i.size, i.bytes)) = some (some (.int .i64 0), 1, 8) := by kernel_rfl
theorem ints64_snoc (L : List Int) (x : Int) : ints64 (L ++ [x]) = ints64 L ++ [.int .i64 x] := by simp [ints64]
theorem ints64_length (L : List Int) : (ints64 L).length = L.length := by simp [ints64]
set_option maxRecDepth 20000 in
set_option maxHeartbeats 1600000 in
theorem level_bad (all : Int) (D : List Int) (a : Option Addr) (n cap : Nat) (w : World) (hn : n = D.length) (hmax : n ≤ 9223372036854775807) (hD : Vals w a (ints64 D)) (hb : shareE all D ≠ 0) :
    Calls Try.prog 72 #[.int .i64 all, .slice a n cap] w fun e w' => e = .returned (.tuple #[.int .i64 0, .int .i64 (shareE all D)]) ∧ w' = w := by
  have HC := Lib.hid (sCheck_any all D a n cap w hn hmax hD)
  obtain ⟨z, hz⟩ : ∃ z, shareE all D = z := ⟨_, rfl⟩
  rw [hz] at HC hb ⊢
  have hb2 : (z != 0) = true := by simpa using hb
  clear hD hn hz
  go_enter Try.func72, Try.ntmps72
  go_wp2_with (go_at_call 76; refine Calls.mono HC.out ?_; rintro e w1 ⟨rfl, rfl⟩)
  go_ret2
  exact ⟨rfl, rfl⟩
set_option maxRecDepth 20000 in
set_option maxHeartbeats 1600000 in
theorem level_good (all : Int) (D : List Int) (a : Option Addr) (n cap : Nat) (w : World) (hn : n = D.length) (hmax : n ≤ 9223372036854775807) (hD : Vals w a (ints64 D)) (hb : shareE all D = 0) :
    Calls Try.prog 72 #[.int .i64 all, .slice a n cap] w fun e w' => ∃ v, e = .returned (.tuple #[.int .i64 v, .int .i64 0]) ∧ Lv all D v ∧ Below w.heap.size w w' := by
  have HC := Lib.hid (sCheck_any all D a n cap w hn hmax hD)
  obtain ⟨g1, g2, g3, g4⟩ := shareE_good hb
  rw [hb] at HC
  have HL := Lib.hid (level_any all D a n cap w g1 hn (by omega) hD g4)
  clear hD hn hb g4 g3 g1 g2
  go_enter Try.func72, Try.ntmps72
  go_wp2_with (first
    | (go_at_call 76; refine Calls.mono HC.out ?_; rintro e w1 ⟨rfl, rfl⟩)
    | (go_at_call 154; refine Calls.mono HL.out ?_; rintro e w1 ⟨v, rfl, h1, h2⟩))
  go_ret2
  exact ⟨v, rfl, h1, h2⟩
set_option maxRecDepth 20000 in
set_option maxHeartbeats 1600000 in
theorem split_bad (all : Int) (D : List Int) (a : Option Addr) (n cap : Nat) (w : World) (hn : n = D.length) (hmax : n ≤ 9223372036854775807) (hD : Vals w a (ints64 D)) (hb : shareE all D ≠ 0) :
    Calls Try.prog 73 #[.int .i64 all, .slice a n cap] w fun e w' => e = .returned (.tuple #[.slice none 0 0, .int .i64 (shareE all D)]) ∧ w' = w := by
  have HC := Lib.hid (sCheck_any all D a n cap w hn hmax hD)
  obtain ⟨z, hz⟩ : ∃ z, shareE all D = z := ⟨_, rfl⟩
  rw [hz] at HC hb ⊢
  have hb2 : (z != 0) = true := by simpa using hb
  clear hD hn hz
  go_enter Try.func73, Try.ntmps73
  go_wp2_with (go_at_call 76; refine Calls.mono HC.out ?_; rintro e w1 ⟨rfl, rfl⟩)
  go_ret2
  exact ⟨rfl, rfl⟩
/-- what the loop keeps -/
structure SplI (B : Nat) (v left0 : Int) (D : List Int) (q : Nat) (left : Int) (vo : Value) (w wr : World) : Prop where
  left' : left = Sh.leftOf v (D.take q) left0
  own : wr.ownsRow B 2 1 vo q (ints64 (Sh.parts v (D.take q) left0))
  below : Below B w wr
theorem SplI.next {B : Nat} {v left0 : Int} {D : List Int} {q : Nat} {left : Int} {vo vo' : Value} {w wr w' : World} {x p l2 : Int} (h : SplI B v left0 D q left vo w wr) (hx : D[q]? = some x) (hp : p = Sh.part v x left) (hl : l2 = Sh.leftB v x left) (ho : w'.ownsRow B 2 1 vo' (q + 1) (ints64 (Sh.parts v (D.take q) left0) ++ [.int .i64 p])) (hb : Below B w w') : SplI B v left0 D (q + 1) l2 vo' w w' := by
  have ht : D.take (q + 1) = D.take q ++ [x] := by rw [List.take_add_one, hx]; rfl
  refine ⟨?_, ?_, hb⟩
  · rw [ht, (parts_snoc v x _ _).2, ← h.left', hl]
  · rw [ht, (parts_snoc v x _ _).1, ints64_snoc, ← h.left', ← hp]
    exact ho
set_option maxRecDepth 20000 in
set_option maxHeartbeats 1600000 in
theorem split_good (all : Int) (D : List Int) (a : Option Addr) (n cap : Nat) (w : World) (hn : n = D.length) (hmax : n ≤ 9223372036854775807) (hD : Vals w a (ints64 D)) (hb : shareE all D = 0) :
    Calls Try.prog 73 #[.int .i64 all, .slice a n cap] w fun e w' => ∃ v vo, e = .returned (.tuple #[vo, .int .i64 0]) ∧ Lv all D v ∧ IsVals w' vo (ints64 (Sh.parts v D (all - up D v))) ∧ Below w.heap.size w w' := by
  have HC := Lib.hid (sCheck_any all D a n cap w hn hmax hD)
  obtain ⟨g1, g2, g3, g4⟩ := shareE_good hb
  rw [hb] at HC
  have HL := Lib.hid (level_any all D a n cap w g1 hn (by omega) hD g4)
  have HD := Lib.hid hD
  have HN := Lib.hid hn
  have HG := Lib.hid g4
  have hn100 : n ≤ 100 := by omega
  have g2' : all ≤ 1099511627776 := g2
  clear hD hn hb g4 g3 g2
  go_enter Try.func73, Try.ntmps73
  go_upto_region 5 with (first
    | (go_at_call 76; refine Calls.mono HC.out ?_; rintro e w0 ⟨rfl, hw0⟩; obtain rfl := hw0.symm)
    | (go_at_call 154; refine Calls.mono HL.out ?_; rintro e w1 ⟨v, rfl, h1, h2⟩; have HLV := Lib.hid h1; have HB1 := Lib.hid h2; clear h1 h2))
  have hv0 : 0 ≤ v := HLV.out.lo
  have hv1 : v ≤ 1099511627776 := HLV.out.hi
  obtain ⟨s, hs⟩ : ∃ s, up D v = s := ⟨_, rfl⟩
  have HSS := Lib.hid hs
  have hs1 : 0 ≤ s := by rw [← hs]; exact (up_bound HG.out hv0).1
  have hs2 : s ≤ all := by rw [← hs]; exact HLV.out.fits
  clear hs
  obtain ⟨l0, hl0⟩ : ∃ l0, all - s = l0 := ⟨_, rfl⟩
  have wl : IntKind.i64.wrap l0 = l0 := IntWalk.i64_in _ (by omega)
  have hl1 : 0 ≤ l0 ∧ l0 ≤ 1099511627776 := by omega
  obtain ⟨B, hB⟩ : ∃ B, B = w.heap.size := ⟨_, rfl⟩
  have HB0 := Lib.hid hB
  have HI0 : Hid (SplI B v l0 D 0 l0 (.slice none 0 0) w w1) := Lib.hid ⟨rfl, World.ownsRow_nil _ _ _ _, by rw [hB]; exact HB1.out⟩
  clear hB
  go_wp2_with (go_at_call 155; refine Calls.mono (upTo_any D v a n cap _ HN.out hn100 (HD.out.below HB1.out (Nat.le_refl _)) HG.out hv0 hv1) ?_; rintro e w2 ⟨rfl, hw2⟩; obtain rfl := hw2.symm; rw [HSS.out])
  go_loopg [8, 9, 29] n (fun gk x8 x9 x wr => ∃ (q : Nat) (left : Int), q + gk = n ∧ x = .int .i64 (q : Int) ∧ x8 = .int .i64 left ∧ 0 ≤ left ∧ left ≤ 1099511627776 ∧ Hid (SplI B v l0 D q left x9 w wr))
  case atStart => exact ⟨0, l0, by omega, rfl, rfl, hl1.1, hl1.2, HI0⟩
  case round =>
    clear HI0
    obtain ⟨q, left, hqg, rfl, rfl, hle0, hle1, HI⟩ := hrel
    have hsz := HI.out.below.size
    by_cases hqn : q < n
    · obtain ⟨x, hx⟩ : ∃ x, D[q]? = some x := ⟨_, List.getElem?_eq_getElem (by have := HN.out; omega)⟩
      obtain ⟨b, off, rfl, hlt, c1⟩ := i64at (HD.out.below HI.out.below (by have := HB0.out; omega)) hx
      have HX := Lib.hid hx
      have hqn2 : (q : Int) < (n : Int) := by omega
      obtain ⟨hx0, hx1⟩ := HG.out x (List.mem_of_getElem? hx)
      have hx1' : x ≤ 1099511627776 := hx1
      have hBw : B ≤ wr.heap.size := by have := HB0.out; omega
      have HO := Lib.hid HI.out.own
      clear hx hx1
      by_cases hgt : v < x
      · have m1 : ¬ x < v := by omega
        have m2 : ¬ x ≤ v := by omega
        have b1 : decide (v < x) = true := by simp [hgt]
        by_cases hle : 0 < left
        · have b2 : decide (0 < left) = true := by simp [hle]
          have w3 : IntKind.i64.wrap (v + 1) = v + 1 := IntWalk.i64_in _ (by omega)
          have w4 : IntKind.i64.wrap (left - 1) = left - 1 := IntWalk.i64_in _ (by omega)
          have HPT : Hid (v + 1 = Sh.part v x left ∧ left - 1 = Sh.leftB v x left) := Lib.hid (by unfold Sh.part Sh.leftB; rw [if_pos ⟨hgt, hle⟩]; omega)
          go_wp2_with (at_builtin; go_loud (refine wpList_push wr (by rfl) _ _ 36 (by rfl) B 2 (.int .i64 0) 8 Try.underlying36 infoI64 (by rfl) u9 q _ (.int .i64 (v + 1)) _ rfl (by rfl) HO.out (by rfl) (by rfl) (by unfold maxLen; omega) (by omega) hBw ?_; intro gg cap3 w3 hown hgrow hgb hgl; have HI3 := Lib.hid (HI.out.next HX.out HPT.out.1 HPT.out.2 hown (HI.out.below.grown hgrow hBw (ownBlock_ge HO.out (Nat.le_refl _)))); clear hown hgrow hgb))
          go_roundg (gk - 1)
          case measure => omega
          case rel => exact ⟨q + 1, left - 1, by omega, by simp, rfl, by omega, by omega, HI3⟩
        · have b2 : decide (0 < left) = false := by simp only [hle, decide_false]
          have HPT : Hid (v = Sh.part v x left ∧ left = Sh.leftB v x left) := Lib.hid (by unfold Sh.part Sh.leftB; rw [if_neg (fun h => hle h.2)]; omega)
          go_wp2_with (at_builtin; go_loud (refine wpList_push wr (by rfl) _ _ 36 (by rfl) B 2 (.int .i64 0) 8 Try.underlying36 infoI64 (by rfl) u9 q _ (.int .i64 (v)) _ rfl (by rfl) HO.out (by rfl) (by rfl) (by unfold maxLen; omega) (by omega) hBw ?_; intro gg cap3 w3 hown hgrow hgb hgl; have HI3 := Lib.hid (HI.out.next HX.out HPT.out.1 HPT.out.2 hown (HI.out.below.grown hgrow hBw (ownBlock_ge HO.out (Nat.le_refl _)))); clear hown hgrow hgb))
          go_roundg (gk - 1)
          case measure => omega
          case rel => exact ⟨q + 1, left, by omega, by simp, rfl, by omega, by omega, HI3⟩
      · have b1 : decide (v < x) = false := by simp only [hgt, decide_false]
        have hxv : x ≤ v := by omega
        have HPT : Hid (x = Sh.part v x left ∧ left = Sh.leftB v x left) := Lib.hid (by unfold Sh.part Sh.leftB; rw [if_neg (fun h => hgt h.1)]; omega)
        rcases Int.lt_or_eq_of_le hxv with hxv | hxv
        · have m1 : ¬ v ≤ x := by omega
          go_wp2_with (at_builtin; go_loud (refine wpList_push wr (by rfl) _ _ 36 (by rfl) B 2 (.int .i64 0) 8 Try.underlying36 infoI64 (by rfl) u9 q _ (.int .i64 (x)) _ rfl (by rfl) HO.out (by rfl) (by rfl) (by unfold maxLen; omega) (by omega) hBw ?_; intro gg cap3 w3 hown hgrow hgb hgl; have HI3 := Lib.hid (HI.out.next HX.out HPT.out.1 HPT.out.2 hown (HI.out.below.grown hgrow hBw (ownBlock_ge HO.out (Nat.le_refl _)))); clear hown hgrow hgb))
          go_roundg (gk - 1)
          case measure => omega
          case rel => exact ⟨q + 1, left, by omega, by simp, rfl, by omega, by omega, HI3⟩
        · subst hxv
          go_wp2_with (at_builtin; go_loud (refine wpList_push wr (by rfl) _ _ 36 (by rfl) B 2 (.int .i64 0) 8 Try.underlying36 infoI64 (by rfl) u9 q _ (.int .i64 (x)) _ rfl (by rfl) HO.out (by rfl) (by rfl) (by unfold maxLen; omega) (by omega) hBw ?_; intro gg cap3 w3 hown hgrow hgb hgl; have HI3 := Lib.hid (HI.out.next HX.out HPT.out.1 HPT.out.2 hown (HI.out.below.grown hgrow hBw (ownBlock_ge HO.out (Nat.le_refl _)))); clear hown hgrow hgb))
          go_roundg (gk - 1)
          case measure => omega
          case rel => exact ⟨q + 1, left, by omega, by simp, rfl, by omega, by omega, HI3⟩
    · have hqn2 : ¬ (q : Int) < (n : Int) := by omega
      obtain rfl : q = n := by omega
      have HE := Lib.hid (show IsVals wr u9 (ints64 (Sh.parts v D (all - up D v))) from by
        have h := IsVals.own HI.out.own
        rw [List.take_of_length_le (by have := HN.out; omega)] at h
        rwa [HSS.out, hl0])
      go_wp2_with fail
      go_ret2
      exact ⟨v, _, rfl, HLV.out, HE.out, HB0.out ▸ HI.out.below⟩
end Go.Proofs.Ytfjoakhcgpckgaa
