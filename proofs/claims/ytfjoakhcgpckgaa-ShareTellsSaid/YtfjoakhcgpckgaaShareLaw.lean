/- The walk of the law ShareTells: for every row it answers true. -/
import Derived.Test.YtfjoakhcgpckgaaShareWhole
import Derived.Test.YtfjoakhcgpckgaaShareFault
import Derived.Test.YtfjoakhcgpckgaaShareRef2
namespace Go.Proofs.Ytfjoakhcgpckgaa
open Go.ChangeShapes Go.WideShapes Go.ChangeAt Go.RowKit
set_option linter.unusedVariables false
open Sh St
set_option maxHeartbeats 1600000 in
theorem eqI64 (L : List Int) (v1 v2 : Value) (w : World) (hm : L.length ≤ 1000) (h1 : IsVals w v1 (ints64 L)) (h2 : IsVals w v2 (ints64 L)) :
    Calls Try.prog 79 #[v1, v2] w fun e w' => e = .returned (.bool true) ∧ Below w.heap.size w w' := by
  obtain ⟨a1, c1, rfl, hA⟩ := h1
  obtain ⟨a2, c2, rfl, hB⟩ := h2
  have HA := Lib.hid hA
  have HB := Lib.hid hB
  rw [ints64_length]
  obtain ⟨n, hn⟩ : ∃ n, L.length = n := ⟨_, rfl⟩
  have HN := Lib.hid hn
  rw [hn] at hm ⊢
  clear hA hB hn
  have hnb : ((n : Int) != n) = false := by simp
  go_enter Try.func79, Try.ntmps79
  go_wp2_with fail
  go_loopw [13] (fun x wr => ∃ i : Nat, i ≤ n ∧ x = .int .i64 i ∧ Below w.heap.size w wr) (fun x _ => n - (intOf x).toNat)
  case atStart => exact ⟨0, by omega, rfl, Below.refl _ _⟩
  case round =>
    obtain ⟨i, hi, rfl, hW⟩ := hrel
    by_cases hin : i < n
    · obtain ⟨x, hx⟩ : ∃ p, L[i]? = some p := ⟨_, List.getElem?_eq_getElem (by have := HN.out; omega)⟩
      obtain ⟨b1, o1, rfl, hb1, hc1⟩ := i64at HA.out hx
      obtain ⟨b2, o2, rfl, hb2, hc2⟩ := i64at HB.out hx
      have q1 := (hW.cell (p := ⟨b1, o1 + i, none⟩) hb1).trans hc1
      have q2 := (hW.cell (p := ⟨b2, o2 + i, none⟩) hb2).trans hc2
      have hi1 : (0 : Int) ≤ (i : Int) := by omega
      have hi2 : (i : Int) < (n : Int) := by omega
      have hx1 : (x == x) = true := by simp
      clear hc1 hc2 hx
      go_wp2_with fail
      go_quiet (fail)
      go_wp2_with fail
      go_roundw
      case rel => exact ⟨i + 1, by omega, rfl, by refine below_drewN ?_ _; exact hW⟩
      case measure => simp [intOf]; omega
    · go_wp2_with fail
      go_ret
      exact ⟨rfl, hW⟩
set_option maxHeartbeats 1600000 in
theorem shareLaw_bad (all : Int) (D : List Int) (a : Option Addr) (n cap : Nat) (w : World) (hn : n = D.length) (hmax : n ≤ 9223372036854775807) (hD : Vals w a (ints64 D)) (hb : shareE all D ≠ 0) :
    Calls Try.prog 10 #[.int .i64 all, .slice a n cap] w fun e w' => e = .returned (.bool true) ∧ Below w.heap.size w w' := by
  have C1 := Lib.hid (level_bad all D a n cap w hn hmax hD hb)
  have C2 := Lib.hid (split_bad all D a n cap w hn hmax hD hb)
  have C3 := Lib.hid (whole_bad all D a n cap w hn hmax hD hb)
  have C4 := Lib.hid (sFault_any all D a n cap w hn hmax hD)
  have C5 := Lib.hid (sCheck_any all D a n cap w hn hmax hD)
  obtain ⟨z, hz⟩ : ∃ z, shareE all D = z := ⟨_, rfl⟩
  rw [hz] at C1 C2 C3 C4 C5 hb
  have hb2 : (z != 0) = true := by simpa using hb
  have hb3 : (z == z) = true := by simp
  have hb4 : (z != z) = false := by simp
  clear hD hn hz
  go_enter Try.func10, Try.ntmps10
  go_wp2_with (first
    | (go_at_call 72; refine Calls.mono C1.out ?_; rintro e w1 ⟨rfl, h1⟩; obtain rfl := h1.symm)
    | (go_at_call 73; refine Calls.mono C2.out ?_; rintro e w1 ⟨rfl, h1⟩; obtain rfl := h1.symm)
    | (go_at_call 74; refine Calls.mono C3.out ?_; rintro e w1 ⟨rfl, h1⟩; obtain rfl := h1.symm)
    | (go_at_call 75; refine Calls.mono C4.out ?_; rintro e w1 ⟨rfl, h1⟩; obtain rfl := h1.symm)
    | (go_at_call 76; refine Calls.mono C5.out ?_; rintro e w1 ⟨rfl, h1⟩; obtain rfl := h1.symm))
  go_ret
  exact ⟨rfl, Below.refl _ _⟩
theorem WholeR.length {all : Int} {D R : List Int} (h : WholeR all D R) : R.length ≤ D.length := by
  rcases h with ⟨_, rfl⟩ | ⟨_, os, _, _, rfl⟩
  · simp
  · unfold wholeO
    rw [bump_length]
    unfold quos
    rw [List.length_map]
    exact Nat.le_refl _
set_option maxRecDepth 20000 in
set_option maxHeartbeats 3200000 in
theorem shareLaw_good (all : Int) (D : List Int) (a : Option Addr) (n cap : Nat) (w : World) (hn : n = D.length) (hmax : n ≤ 9223372036854775807) (hD : Vals w a (ints64 D)) (hb : shareE all D = 0) :
    Calls Try.prog 10 #[.int .i64 all, .slice a n cap] w fun e w' => e = .returned (.bool true) ∧ Below w.heap.size w w' := by
  obtain ⟨hall, hall2, g3, hok⟩ := shareE_good hb
  have h4 : n ≤ 100 := by omega
  have hall3 : all ≤ 1099511627776 := hall2
  have HAB : Hid (∀ w1, Below w.heap.size w w1 → Vals w1 a (ints64 D)) := Lib.hid fun w1 h => hD.below h (Nat.le_refl _)
  have HN := Lib.hid hn
  have HO := Lib.hid hok
  have HB := Lib.hid hb
  have HB0 : Hid (Below w.heap.size w w) := Lib.hid (Below.refl _ _)
  have C4 : Hid (∀ w1, Below w.heap.size w w1 → Calls Try.prog 75 #[.int .i64 all, .slice a n cap] w1 fun e w' => e = .returned (.int .i64 0) ∧ w' = w1) := Lib.hid (by
    intro w1 h; have := sFault_any all D a n cap w1 hn hmax (HAB.out _ h); rwa [hb] at this)
  have C5 : Hid (∀ w1, Below w.heap.size w w1 → Calls Try.prog 76 #[.int .i64 all, .slice a n cap] w1 fun e w' => e = .returned (.int .i64 0) ∧ w' = w1) := Lib.hid (by
    intro w1 h; have := sCheck_any all D a n cap w1 hn hmax (HAB.out _ h); rwa [hb] at this)
  have HPL : Hid (∀ v, (Sh.parts v D (all - up D v)).length ≤ 1000) := Lib.hid (fun v => by rw [parts_length]; omega)
  obtain ⟨z, hz⟩ : ∃ z, wholeE D = z := ⟨_, rfl⟩
  have hz1 : (z == z) = true := by simp
  have HZ := Lib.hid hz
  clear hD hn hok hb hz g3 hall2
  go_enter Try.func10, Try.ntmps10
  go_wp2_with (first
    | (go_at_call 72; refine Calls.mono (level_good all D a n cap _ HN.out hmax (HAB.out _ HB0.out) HB.out) ?_; rintro e w1 ⟨v1, rfl, hv1, hb1⟩; have HV1 := Lib.hid hv1; have HB1 := Lib.hid (HB0.out.trans hb1); clear hv1 hb1)
    | (go_at_call 73; refine Calls.mono (split_good all D a n cap _ HN.out hmax (HAB.out _ HB1.out) HB.out) ?_; rintro e w2 ⟨v2, vo2, rfl, hv2, hi2, hb2⟩; obtain rfl := hv2.uniq HV1.out; have HI2 := Lib.hid hi2; have HB2 := Lib.hid (HB1.out.trans (hb2.mono HB1.out.size)); clear hv2 hi2 hb2)
    | (go_at_call 74; refine Calls.mono (whole_good all D a n cap _ HN.out hmax (HAB.out _ HB2.out) HB.out) ?_; rintro e w3 ⟨vo3, R, rfl, hR, hi3, hb3⟩; rw [HZ.out]; have HR := Lib.hid hR; have HI3 := Lib.hid hi3; have HI2 := Lib.hid (HI2.out.below hb3 (Nat.le_refl _)); have HB3 := Lib.hid (HB2.out.trans (hb3.mono HB2.out.size)); clear hR hi3 hb3)
    | (go_at_call 75; refine Calls.mono (C4.out _ HB3.out) ?_; rintro e w4 ⟨rfl, h1⟩; obtain rfl := h1.symm)
    | (go_at_call 76; refine Calls.mono (C5.out _ HB3.out) ?_; rintro e w4 ⟨rfl, h1⟩; obtain rfl := h1.symm)
    | (go_at_call 77; refine Calls.mono (rWhole_any all D a n cap _ hall hall3 HN.out h4 (HAB.out _ HB3.out) HO.out) ?_; rintro e w5 ⟨vo5, R5, rfl, hR5, hi5, hb5⟩; rw [HZ.out]; obtain rfl := hR5.uniq HR.out; have HI5 := Lib.hid hi5; have HI25 := Lib.hid (HI2.out.below hb5 (Nat.le_refl _)); have HI35 := Lib.hid (HI3.out.below hb5 (Nat.le_refl _)); have HB5 := Lib.hid (HB3.out.trans (hb5.mono HB3.out.size)); clear hR5 hi5 hb5)
    | (go_at_call 78; refine Calls.mono (rLevel_any all D a n cap _ hall HN.out h4 (HAB.out _ HB5.out) HO.out) ?_; rintro e w6 ⟨v6, rfl, hv6, h6⟩; obtain rfl := h6.symm; obtain rfl := hv6.uniq HV1.out)
    | (go_at_call 80; refine Calls.mono (rSplit_any all D a n cap _ hall hall3 HN.out h4 (HAB.out _ HB5.out) HO.out) ?_; rintro e w7 ⟨v7, vo7, rfl, hv7, hi7, hb7⟩; obtain rfl := hv7.uniq HV1.out; have HI7 := Lib.hid hi7; have HI27 := Lib.hid (HI25.out.below hb7 (Nat.le_refl _)); have HI37 := Lib.hid (HI35.out.below hb7 (Nat.le_refl _)); have HI57 := Lib.hid (HI5.out.below hb7 (Nat.le_refl _)); have HB7 := Lib.hid (HB5.out.trans (hb7.mono HB5.out.size)); clear hv7 hi7 hb7)
    | (go_at_call 79; (with_reducible refine Calls.mono (eqI64 _ vo2 vo7 _ (HPL.out _) HI27.out HI7.out) ?_); rintro e w8 ⟨rfl, hb8⟩; have HI38 := Lib.hid (HI37.out.below hb8 (Nat.le_refl _)); have HI58 := Lib.hid (HI57.out.below hb8 (Nat.le_refl _)); have HB8 := Lib.hid (HB7.out.trans (hb8.mono HB7.out.size)); clear hb8)
    | (go_at_call 79; (with_reducible refine Calls.mono (eqI64 _ vo3 vo5 _ (by have := HR.out.length; have := HN.out; omega) HI38.out HI58.out) ?_); rintro e w9 ⟨rfl, hb9⟩; have HB9 := Lib.hid (HB8.out.trans (hb9.mono HB8.out.size)); clear hb9))
  go_ret
  exact ⟨rfl, HB9.out⟩
end Go.Proofs.Ytfjoakhcgpckgaa
