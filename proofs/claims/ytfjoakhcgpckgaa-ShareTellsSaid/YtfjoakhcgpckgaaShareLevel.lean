/- Contracts: the level of a share. -/
import Derived.Test.YtfjoakhcgpckgaaShare
namespace Go.Proofs.Ytfjoakhcgpckgaa
open Go.ChangeShapes Go.WideShapes Go.ChangeAt Go.RowKit
set_option linter.unusedVariables false
open Sh
set_option maxRecDepth 20000 in
set_option maxHeartbeats 1600000 in
theorem lev1_any (all : Int) (D : List Int) (v : Int) (a : Option Addr) (n cap bl ba : Nat) (w : World) (hn : n = D.length) (h4 : n ≤ 100) (hD : Vals w a (ints64 D)) (hok : ∀ x, x ∈ D → 0 ≤ x ∧ x ≤ m40) (hv : 0 ≤ v) (hv2 : v < 1099511627776)
    (c1 : w.cell? ⟨bl, 0, none⟩ = some (.slice a n cap)) (c2 : w.cell? ⟨ba, 0, none⟩ = some (.int .i64 all)) (l1 : bl < w.heap.size) (l2 : ba < w.heap.size) :
    Calls Try.prog 202 #[.int .i64 v, .pointer (some ⟨bl, 0, none⟩), .pointer (some ⟨ba, 0, none⟩)] w fun e w' => e = .returned (.bool (decide (all < up D (v + 1)))) ∧ Drawn w w' := by
  have HD := Lib.hid hD
  have HN := Lib.hid hn
  have HO := Lib.hid hok
  have w1 : IntKind.i64.wrap (v + 1) = v + 1 := IntWalk.i64_in _ (by omega)
  have hv3 : 0 ≤ v + 1 := by omega
  have hv4 : v + 1 ≤ 1099511627776 := by omega
  clear hD hn hok
  go_enter Try.func202, Try.ntmps202
  go_wp2_with fail
  go_quiet ((go_at_call 155; exact quiet_drawn ((upTo_any D (v + 1) a n cap _ HN.out h4 (HD.out.below ((Drawn.drewN w _).below _) (Nat.le_refl _)) HO.out hv3 hv4).mono fun e w' ⟨h1, h2⟩ => ⟨h1, h2 ▸ Drawn.refl _⟩)))
  go_wp2_with fail
  go_ret
  exact ⟨rfl, Drawn.drewN w _⟩
set_option maxRecDepth 20000 in
set_option maxHeartbeats 1600000 in
theorem search_any (all : Int) (D : List Int) (a : Option Addr) (n cap bl ba : Nat) (w : World) (hall : 0 ≤ all) (hn : n = D.length) (h4 : n ≤ 100) (hD : Vals w a (ints64 D)) (hok : ∀ x, x ∈ D → 0 ≤ x ∧ x ≤ m40)
    (c1 : w.cell? ⟨bl, 0, none⟩ = some (.slice a n cap)) (c2 : w.cell? ⟨ba, 0, none⟩ = some (.int .i64 all)) (l1 : bl < w.heap.size) (l2 : ba < w.heap.size) :
    Calls Try.prog 201 #[.int .i64 1099511627776, .func (.func 202) #[] #[.pointer (some ⟨bl, 0, none⟩), .pointer (some ⟨ba, 0, none⟩)]] w fun e w' => ∃ v, e = .returned (.int .i64 v) ∧ Lv all D v ∧ Below w.heap.size w w' := by
  have HD := Lib.hid hD
  have HN := Lib.hid hn
  have HO := Lib.hid hok
  have HC1 := Lib.hid c1
  have HC2 := Lib.hid c2
  obtain ⟨N, hN⟩ : ∃ N : Nat, (N : Int) = 1099511627776 := ⟨1099511627776, rfl⟩
  have HNN := Lib.hid hN
  have HS0 : Hid (Sch all D 0 N) := Lib.hid ⟨by have := up_zero hok; show up D 0 ≤ all; omega, fun h => by unfold m40 at h; omega⟩
  clear hD hn hok c1 c2
  rw [← hN]
  clear hN
  go_enter Try.func201, Try.ntmps201
  go_wp2_with fail
  go_loopg [5, 6] N (fun gk x y wr => ∃ i j : Nat, i ≤ j ∧ j ≤ N ∧ j - i ≤ gk ∧ x = .int .i64 (i : Int) ∧ y = .int .i64 (j : Int) ∧ Hid (Sch all D i j) ∧ Hid (Below w.heap.size w wr))
  case atStart => exact ⟨0, N, by omega, by omega, by omega, rfl, rfl, HS0, Lib.hid (Below.refl _ _)⟩
  case round =>
    clear HS0
    obtain ⟨i, j, hij, hjN, hg, rfl, rfl, HS, HB⟩ := hrel
    have hN2 : (N : Int) ≤ 1099511627776 := by rw [HNN.out]; omega
    by_cases hlt : i < j
    · have hlt2 : (i : Int) < (j : Int) := by omega
      obtain ⟨h, hh1, hh2⟩ : ∃ h, 2 * h ≤ i + j ∧ i + j < 2 * h + 2 := ⟨(i + j) / 2, by omega, by omega⟩
      have vh : ((i : Int) + (j : Int)) / 2 = (h : Int) := by omega
      have b1 : (0 : Int) ≤ (i : Int) + (j : Int) := by omega
      have b2 : (i : Int) + (j : Int) ≤ 2199023255552 := by omega
      have b3 : (0 : Int) ≤ (h : Int) := by omega
      have b4 : (h : Int) < 1099511627776 := by omega
      have b5 : (h : Int) + 1 ≤ 1099511627776 := by omega
      have ws : IntKind.i64.wrap ((i : Int) + (j : Int)) = (i : Int) + (j : Int) := IntWalk.i64_in _ (by omega)
      have wh : IntKind.i64.wrap ((h : Int) + 1) = ((h + 1 : Nat) : Int) := by rw [IntWalk.i64_in _ (by omega)]; omega
      have hsz := HB.out.size
      have d1 : wr.cell? ⟨bl, 0, none⟩ = some (.slice a n cap) := (HB.out.cell (p := ⟨bl, 0, none⟩) l1).trans HC1.out
      have d2 : wr.cell? ⟨ba, 0, none⟩ = some (.int .i64 all) := (HB.out.cell (p := ⟨ba, 0, none⟩) l2).trans HC2.out
      have HD1 := Lib.hid d1
      have HD2 := Lib.hid d2
      have HLL : Hid (bl < wr.heap.size ∧ ba < wr.heap.size) := Lib.hid (by omega)
      clear d1 d2
      cases hf : decide (all < up D ((h : Int) + 1)) with
      | true =>
        have HS2 : Hid (Sch all D i h) := Lib.hid ⟨HS.out.fits, fun _ => by simpa using hf⟩
        have HF := Lib.hid hf
        clear hf
        go_wp2_with (go_at_call 202; refine Calls.mono (lev1_any all D h a n cap bl ba _ HN.out h4 (HD.out.below HB.out (Nat.le_refl _)) HO.out b3 b4 HD1.out HD2.out HLL.out.1 HLL.out.2) ?_; rintro e w2 ⟨rfl, hdr⟩; rw [HF.out]; have HB2 := Lib.hid (HB.out.trans (hdr.below _)); clear hdr)
        go_roundg (gk - 1)
        case measure => omega
        case rel => exact ⟨i, h, by omega, by omega, by omega, rfl, rfl, HS2, HB2⟩
      | false =>
        have HS2 : Hid (Sch all D (h + 1) j) := Lib.hid ⟨(by have h1 : ¬ all < up D ((h : Int) + 1) := (by simpa using hf); have e1 : ((h + 1 : Nat) : Int) = (h : Int) + 1 := (by omega); rw [e1]; omega), HS.out.most⟩
        have HF := Lib.hid hf
        clear hf
        go_wp2_with (go_at_call 202; refine Calls.mono (lev1_any all D h a n cap bl ba _ HN.out h4 (HD.out.below HB.out (Nat.le_refl _)) HO.out b3 b4 HD1.out HD2.out HLL.out.1 HLL.out.2) ?_; rintro e w2 ⟨rfl, hdr⟩; rw [HF.out]; have HB2 := Lib.hid (HB.out.trans (hdr.below _)); clear hdr)
        go_roundg (gk - 1)
        case measure => omega
        case rel => exact ⟨h + 1, j, by omega, by omega, by omega, by simp, rfl, HS2, HB2⟩
    · have hlt2 : ¬ (i : Int) < (j : Int) := by omega
      obtain rfl : i = j := by omega
      have HL := Lib.hid (HS.out.done (by unfold m40; omega))
      go_wp2_with fail
      go_ret
      exact ⟨_, rfl, HL.out, HB.out⟩
set_option maxRecDepth 20000 in
set_option maxHeartbeats 1600000 in
theorem level_any (all : Int) (D : List Int) (a : Option Addr) (n cap : Nat) (w : World) (hall : 0 ≤ all) (hn : n = D.length) (h4 : n ≤ 100) (hD : Vals w a (ints64 D)) (hok : ∀ x, x ∈ D → 0 ≤ x ∧ x ≤ m40) :
    Calls Try.prog 154 #[.int .i64 all, .slice a n cap] w fun e w' => ∃ v, e = .returned (.int .i64 v) ∧ Lv all D v ∧ Below w.heap.size w w' := by
  have HD := Lib.hid hD
  have HN := Lib.hid hn
  have HO := Lib.hid hok
  obtain ⟨W2, hW2⟩ : ∃ W, W = (w.alloc (.cells #[.int .i64 all] 2)).alloc (.cells #[.slice a n cap] 36) := ⟨_, rfl⟩
  have HB := Lib.hid (show Below w.heap.size w W2 from by rw [hW2]; exact ((Below.refl _ _).alloc (Nat.le_refl _) _).alloc (by simp) _)
  have HC1 : Hid (W2.cell? ⟨w.heap.size + 1, 0, none⟩ = some (.slice a n cap)) := Lib.hid (by rw [hW2]; simp)
  have HC2 : Hid (W2.cell? ⟨w.heap.size, 0, none⟩ = some (.int .i64 all)) := Lib.hid (by rw [hW2]; simp)
  have HLL : Hid (w.heap.size + 1 < W2.heap.size ∧ w.heap.size < W2.heap.size) := Lib.hid (by rw [hW2]; simp; omega)
  clear hD hn hok
  go_enter Try.func154, Try.ntmps154
  go_upto_region 1 with fail
  rw [← hW2]
  clear hW2
  go_wp2_with (go_at_call 201; go_loud (refine Calls.mono (search_any all D a n cap (w.heap.size + 1) w.heap.size _ hall HN.out h4 (HD.out.below HB.out (Nat.le_refl _)) HO.out HC1.out HC2.out HLL.out.1 HLL.out.2) ?_; rintro e w3 ⟨v, rfl, hl, hb⟩; have HL := Lib.hid hl; have HB3 := Lib.hid hb; clear hl hb))
  go_ret
  exact ⟨v, rfl, HL.out, HB.out.trans (HB3.out.mono HB.out.size)⟩
end Go.Proofs.Ytfjoakhcgpckgaa
