/- The walk of the law AssignTells: for all costs and every row of jobs it answers true. -/
import Derived.Test.YtjmpfkolpgbebaaAssignPrice
import Derived.Test.YtjmpfkolpgbebaaAssignCheap
import Derived.Test.YtjmpfkolpgbebaaAssignGood
namespace Go.Proofs.Ytjmpfkolpgbebaa
open Go.ChangeShapes Go.WideShapes Go.ChangeAt Go.RowKit
set_option linter.unusedVariables false
open As
set_option maxRecDepth 20000 in
set_option maxHeartbeats 4000000 in
theorem assignLaw_bad (R : List (List Int)) (a a2 : Option Addr) (n cap n2 cap2 : Nat) (w : World) (hn : n = R.length) (hmax : n ≤ 9223372036854775807) (hT : Tbl w a R) (hb : costsE R ≠ 0) :
    Calls Try.prog 3 #[.slice a n cap, .slice a2 n2 cap2] w fun e w' => e = .returned (.bool true) ∧ Below w.heap.size w w' := by
  have HTW : Hid (∀ W, Below w.heap.size w W → Tbl W a R) := Lib.hid (fun W h => hT.below h (Nat.le_refl _))
  have C1 := Lib.hid (aLeast_bad R a n cap w hn hmax hT hb)
  have C2 := Lib.hid (fun W h => aPrices_bad R a n cap W hn hmax (HTW.out W h) hb)
  have C3 := Lib.hid (fun W h => aCost_bad R a a2 n cap n2 cap2 W hn hmax (HTW.out W h) hb)
  have C4 := Lib.hid (fun W h => rCosts_any R a n cap W hn hmax (HTW.out W h))
  have C5 := Lib.hid (fun W h => aCheck_any R a n cap W hn hmax (HTW.out W h))
  obtain ⟨z, hz⟩ : ∃ z, costsE R = z := ⟨_, rfl⟩
  simp only [hz] at C1 C2 C3 C4 C5
  rw [hz] at hb
  have hb2 : (z != 0) = true := by simpa using hb
  clear hT hn hz
  go_enter Try.func3, Try.ntmps3
  go_wp2_with (first
    | (go_at_call 4; refine Calls.mono C1.out ?_; rintro e w1 ⟨rfl, h1⟩; have HB1 := Lib.hid h1; clear h1)
    | (go_at_call 5; refine Calls.mono (C2.out _ HB1.out) ?_; rintro e w2 ⟨rfl, h1⟩; have HB2 := Lib.hid (HB1.out.trans (h1.mono HB1.out.size)); clear h1)
    | (go_at_call 6; refine Calls.mono (C3.out _ HB2.out) ?_; rintro e w3 ⟨rfl, h1⟩; have HB3 := Lib.hid (HB2.out.trans (h1.mono HB2.out.size)); clear h1)
    | (go_at_call 7; refine Calls.mono (C4.out _ HB3.out) ?_; rintro e w4 ⟨rfl, h1⟩; have HB4 := Lib.hid (HB3.out.trans (h1.mono HB3.out.size)); clear h1)
    | (go_at_call 8; refine Calls.mono (C5.out _ HB4.out) ?_; rintro e w5 ⟨rfl, h1⟩; have HB5 := Lib.hid (HB4.out.trans (h1.mono HB4.out.size)); clear h1))
  go_ret
  exact ⟨rfl, HB5.out⟩
theorem rowI_at {U : Nat → Int} {n i : Nat} (h : i < n) : (rowI U n)[i]? = some (U i) := by
  rw [rowI, List.getElem?_map, List.getElem?_range h]; rfl
set_option maxRecDepth 20000 in
set_option maxHeartbeats 8000000 in
theorem assignLaw_good (R : List (List Int)) (T : List Int) (a a2 : Option Addr) (n cap n2 cap2 : Nat) (w : World) (hn : n = R.length) (hmax : n ≤ 9223372036854775807) (hcap : n ≤ cap) (hcap2 : cap ≤ 9223372036854775807) (hT : Tbl w a R) (hE : costsE R = 0) (hn2 : n2 = T.length) (hc2 : n2 ≤ cap2) (hc3 : cap2 ≤ 9223372036854775807) (hV : Vals w a2 (ints64 T)) :
    Calls Try.prog 3 #[.slice a n cap, .slice a2 n2 cap2] w fun e w' => e = .returned (.bool true) ∧ Below w.heap.size w w' := by
  obtain ⟨h12, hsq, hF⟩ := costsE_good hE
  rw [← hn] at h12 hsq hF
  have HTW : Hid (∀ W, Below w.heap.size w W → Tbl W a R) := Lib.hid (fun W h => hT.below h (Nat.le_refl _))
  have HVW : Hid (∀ W, Below w.heap.size w W → Vals W a2 (ints64 T)) := Lib.hid (fun W h => hV.below h (Nat.le_refl _))
  have C1 := Lib.hid (aLeast_good R a n cap w hn hmax hcap hcap2 hT hE)
  have C2 := Lib.hid (fun W h => aPrices_good R a n cap W hn hmax hcap hcap2 (HTW.out W h) hE)
  have C3 := Lib.hid (fun W h => aCost_good R T a a2 n cap n2 cap2 W hn hmax (HTW.out W h) hE hn2 (HVW.out W h))
  have C4 := Lib.hid (fun W h => rCosts_any R a n cap W hn hmax (HTW.out W h))
  have C5 := Lib.hid (fun W h => aCheck_any R a n cap W hn hmax (HTW.out W h))
  have C6 := Lib.hid (fun W h => rCost_good R T a a2 n cap n2 cap2 W hn (HTW.out W h) hE hn2 hc2 hc3 (HVW.out W h))
  have C7 := Lib.hid (fun W T' b' h (h1 : n = T'.length) h2 => rCost_good R T' a b' n cap n n W hn (HTW.out W h) hE h1 (Nat.le_refl _) (by omega) h2)
  have C8 := Lib.hid (fun W h => cheap_any R a n cap W hn (HTW.out W h) hE)
  simp only [hE] at C4 C5
  have HN := Lib.hid hn
  have HSQ := Lib.hid hsq
  have HF := Lib.hid hF
  clear hT hn hE hn2 hV hsq hF
  go_enter Try.func3, Try.ntmps3
  go_upto_region 9 with (first
    | (go_at_call 4; refine Calls.mono C1.out ?_; rintro e w1 ⟨gt, t, m, rfl, h0, h1, h2, h3, h4⟩; have HGT := Lib.hid h0; have HM := Lib.hid h1; have HL := Lib.hid h2; have HVT := Lib.hid h3; have HB1 := Lib.hid h4; clear h0 h1 h2 h3 h4)
    | (go_at_call 5; refine Calls.mono (C2.out _ HB1.out) ?_; rintro e w2 ⟨U, V, ua, va, cu, cv, rfl, h0, h1, h2, h3, h4, h5, h6⟩; have HU2 := Lib.hid h0; have HV2 := Lib.hid h1; have HFE := Lib.hid h2; have HBU := Lib.hid h3; have HBV := Lib.hid h4; have HL2 := Lib.hid h5; have HVT2 := Lib.hid (HVT.out.below h6 (Nat.le_refl _)); have HB2 := Lib.hid (HB1.out.trans (h6.mono HB1.out.size)); clear h0 h1 h2 h3 h4 h5 h6)
    | (go_at_call 6; refine Calls.mono (C3.out _ HB2.out) ?_; rintro e w3 ⟨k, g, rfl, h0, h1⟩; have HCQ := Lib.hid h0; have HB3 := Lib.hid (HB2.out.trans (h1.mono HB2.out.size)); have HK3 := Lib.hid h1; clear h0 h1)
    | (go_at_call 7; refine Calls.mono (C4.out _ HB3.out) ?_; rintro e w4 ⟨rfl, h1⟩; have HB4 := Lib.hid (HB3.out.trans (h1.mono HB3.out.size)); have HK4 := Lib.hid (HK3.out.trans (h1.mono HK3.out.size)); clear h1)
    | (go_at_call 8; refine Calls.mono (C5.out _ HB4.out) ?_; rintro e w5 ⟨rfl, h1⟩; have HB5 := Lib.hid (HB4.out.trans (h1.mono HB4.out.size)); have HK5 := Lib.hid (HK4.out.trans (h1.mono HK4.out.size)); clear h1))
  go_upto_region 10 with (go_at_call 9; refine Calls.mono (C6.out _ HB5.out) ?_; rintro e w6 ⟨s, ok, rfl, h0, h1⟩; have HCR := Lib.hid h0; have HB6 := Lib.hid (HB5.out.trans (h1.mono HB5.out.size)); have HK6 := Lib.hid (HK5.out.trans (h1.mono HK5.out.size)); clear h0 h1)
  go_cut [109] (fun x W => x = .bool false ∧ W = w6)
  case first =>
    have hcase : (ok = true ∧ s = k ∧ g = 0) ∨ (ok = false ∧ k = 0 ∧ g = 1) := by
      rcases HCQ.out with ⟨h1, h2⟩ | ⟨h1, h2, h3⟩
      · rcases HCR.out with ⟨h4, h5⟩ | ⟨h4, h5, h6⟩
        · rw [h1] at h4
          exact .inl ⟨h5, (Option.some.inj h4).symm, h2⟩
        · rw [h1] at h4; cases h4
      · rcases HCR.out with ⟨h4, h5⟩ | ⟨h4, h5, h6⟩
        · rw [h1] at h4; cases h4
        · exact .inr ⟨h6, h2, h3⟩
    rcases hcase with ⟨rfl, rfl, rfl⟩ | ⟨rfl, rfl, rfl⟩
    · go_wp2_with fail
      go_meet
      exact ⟨rfl, rfl⟩
    · go_wp2_with fail
      go_meet
      exact ⟨rfl, rfl⟩
  case rest =>
    obtain ⟨rfl, rfl⟩ := hcut
    have HVT6 := Lib.hid (HVT2.out.below HK6.out (Nat.le_refl _))
    have HU6 := Lib.hid (HU2.out.below HK6.out (Nat.le_refl _))
    have HV6 := Lib.hid (HV2.out.below HK6.out (Nat.le_refl _))
    have HC7 : Hid (Calls Try.prog 9 #[.slice a n cap, .slice (some ⟨gt, 0, none⟩) n n] wc fun e w' => e = .returned (.tuple #[.int .i64 m, .bool true]) ∧ Below wc.heap.size wc w') := Lib.hid ((C7.out wc (rowT t n) _ HB6.out (by simp [rowT]) HVT6.out).mono (fun e w' h => by
      obtain ⟨s', z', e1, h1, h2⟩ := h
      rcases h1 with ⟨h3, rfl⟩ | ⟨h3, _⟩
      · rw [rowT_costE HGT.out] at h3
        refine ⟨?_, h2⟩
        rw [e1, HM.out, Option.some.inj h3]
      · rw [rowT_costE HGT.out] at h3; cases h3))
    have HMS : Hid (m = sm (fun p => U p + V p) n) := Lib.hid (HL.out.uniq HL2.out)
    clear HCQ HCR HVT HVT2 HU2 HV2 HK3 HK4 HK5 HK6 C1 C2 C3 C4 C5 C6 C7
    go_upto_region 15 with (first
      | (go_at_call 9; refine Calls.mono HC7.out ?_; rintro e w7 ⟨rfl, h1⟩; have HB7 := Lib.hid (HB6.out.trans (h1.mono HB6.out.size)); have HK7 := Lib.hid h1; clear h1)
      | (go_at_call 10; refine Calls.mono (good_two _ _ (by simp) (by simp) (by simp)) ?_; rintro e w8 ⟨rfl, rfl⟩; have HB8 := Lib.hid (HB7.out.alloc HB7.out.size (.cells #[.int .i64 0, .int .i64 0] 24)); have HK8 := Lib.hid (HK7.out.alloc HK7.out.size (.cells #[.int .i64 0, .int .i64 0] 24)))
      | (go_at_call 11; refine Calls.mono (C8.out _ HB8.out) ?_; rintro e w9 ⟨m', rfl, h1, h2⟩; obtain rfl : m' = m := h1.uniq HL.out; have HB9 := Lib.hid (HB8.out.trans (h2.mono HB8.out.size)); have HK9 := Lib.hid (HK8.out.trans (h2.mono HK8.out.size)); clear h1 h2))
    have HU9 := Lib.hid (HU6.out.below HK9.out (Nat.le_refl _))
    have HV9 := Lib.hid (HV6.out.below HK9.out (Nat.le_refl _))
    have HSB : Hid (∀ i, i ≤ n → -(3000000000 * (i : Int)) ≤ sm (fun p => U p + V p) i ∧ sm (fun p => U p + V p) i ≤ 3000000000 * (i : Int)) := Lib.hid (fun i hi => sm_bound i (fun p hp => by
      have h1 := HBU.out p (by omega)
      have h2 := HBV.out p (by omega)
      omega))
    have HSU : Hid (∀ i, sm (fun p => U p + V p) (i + 1) = sm (fun p => U p + V p) i + (U i + V i)) := Lib.hid (fun i => rfl)
    clear HB6 HB7 HB8 HK7 HK8 HK9 HU6 HV6 HVT6 HC7 C8 HL HL2 HVW HGT HM
    go_wp2_with fail
    go_loopg [6, 152] n (fun gg x y wr => ∃ i : Nat, i + gg = n ∧ y = .int .i64 (i : Int) ∧ x = .int .i64 (m' - sm (fun p => U p + V p) i) ∧ Hid (Below w9.heap.size w9 wr))
    case atStart => exact ⟨0, by omega, rfl, by simp [sm], Lib.hid (Below.refl _ _)⟩
    case round =>
      obtain ⟨i, hi, rfl, rfl, HB⟩ := hrel
      by_cases hin : i < n
      · obtain ⟨ub, uo, rfl, lu, cu0⟩ := i64atR (HU9.out.below HB.out (Nat.le_refl _)) (rowI_at (U := U) hin)
        obtain ⟨vb, vo, rfl, lv, cv0⟩ := i64atR (HV9.out.below HB.out (Nat.le_refl _)) (rowI_at (U := V) hin)
        have hi1 : (0 : Int) ≤ (i : Int) := by omega
        have hi2 : (i : Int) < (n : Int) := by omega
        have bu := HBU.out i hin
        have bv := HBV.out i hin
        have sb := HSB.out i (by omega)
        have sn := HSB.out n (Nat.le_refl _)
        have hms := HMS.out
        have HS1 := Lib.hid (HSU.out i)
        obtain ⟨S, hS⟩ : ∃ x, sm (fun p => U p + V p) i = x := ⟨_, rfl⟩
        obtain ⟨Sn, hSn⟩ : ∃ x, sm (fun p => U p + V p) n = x := ⟨_, rfl⟩
        obtain ⟨Ui, hUi⟩ : ∃ x, U i = x := ⟨_, rfl⟩
        obtain ⟨Vi, hVi⟩ : ∃ x, V i = x := ⟨_, rfl⟩
        rw [hUi] at cu0 bu HS1
        rw [hVi] at cv0 bv HS1
        rw [hS] at sb HS1 ⊢
        rw [hSn] at sn hms
        have hw1 : IntKind.i64.wrap (Ui + Vi) = Ui + Vi := IntWalk.i64_in _ (by omega)
        have hw2 : IntKind.i64.wrap (m' - S - (Ui + Vi)) = m' - S - (Ui + Vi) := IntWalk.i64_in _ (by omega)
        have HUI := Lib.hid hUi
        have HME : Hid (m' - S - (Ui + Vi) = m' - sm (fun p => U p + V p) (i + 1)) := Lib.hid (by rw [HS1.out]; omega)
        clear hS hSn hUi hVi hms sn sb
        go_upto_region 20 with fail
        go_quiet (fail)
        rw [HME.out]
        obtain ⟨W3, hW3⟩ : ∃ W, W = wr.drewN nq := ⟨_, rfl⟩
        have HB3 : Hid (Below w9.heap.size w9 W3) := Lib.hid (by rw [hW3]; exact below_drewN HB.out _)
        rw [← hW3]
        clear hW3 hw1 hw2 cu0 cv0 lu lv HME
        go_wp2_with fail
        obtain ⟨gq', rfl⟩ : ∃ q, q = gk := ⟨_, rfl⟩
        go_loopg [194] n (fun gg y wx => ∃ j : Nat, j + gg = n ∧ y = .int .i64 (j : Int) ∧ Hid (Below w9.heap.size w9 wx))
        case atStart => exact ⟨0, by omega, rfl, HB3⟩
        case round =>
          clear HB3
          obtain ⟨j, hj, rfl, HB3⟩ := hrel
          by_cases hjn : j < n
          · obtain ⟨ub', uo', hue, lu, cu0⟩ := i64atR (HU9.out.below HB3.out (Nat.le_refl _)) (rowI_at (U := U) hin)
            cases hue
            obtain ⟨vb', vo', hve, lv, cv0⟩ := i64atR (HV9.out.below HB3.out (Nat.le_refl _)) (rowI_at (U := V) hjn)
            cases hve
            obtain ⟨ab, ao, rb, ro, rc, rfl, l1, c1, hrc, hrc2, l2, c2⟩ := (HTW.out _ (HB9.out.trans (HB3.out.mono HB9.out.size))).at' (p := i) (k := j) HN.out HSQ.out hin hjn
            have hj1 : (0 : Int) ≤ (j : Int) := by omega
            have hj2 : (j : Int) < (n : Int) := by omega
            have hfe := HFE.out i j hin hjn
            have bvj := HBV.out j hjn
            rw [HUI.out] at cu0 hfe
            obtain ⟨Vj, hVj⟩ : ∃ x, V j = x := ⟨_, rfl⟩
            obtain ⟨cc, hcc⟩ : ∃ x, cst R i j = x := ⟨_, rfl⟩
            rw [hVj] at cv0 hfe bvj
            rw [hcc] at c2 hfe
            have hw1 : IntKind.i64.wrap (Ui + Vj) = Ui + Vj := IntWalk.i64_in _ (by omega)
            have hle : ¬ cc < Ui + Vj := by omega
            have HBQ : Hid (∀ q, Below w9.heap.size w9 (wr.drewN q)) := Lib.hid (fun q => below_drewN HB3.out q)
            clear hVj hcc
            go_wp2_with fail
            go_quiet (fail)
            go_wp2_with fail
            go_roundg (n - (j + 1))
            case measure => omega
            case rel => exact ⟨j + 1, by omega, by simp, Lib.hid (HBQ.out _)⟩
          · obtain rfl : j = n := by omega
            go_wp2_with fail
            go_roundg (j - (i + 1))
            case measure => omega
            case rel => exact ⟨i + 1, by omega, by simp, rfl, HB3⟩
      · obtain rfl : i = n := by omega
        have hz : m' - sm (fun p => U p + V p) i = 0 := by have := HMS.out; omega
        rw [hz]
        go_wp2_with fail
        go_ret
        exact ⟨rfl, HB9.out.trans (HB.out.mono HB9.out.size)⟩
end Go.Proofs.Ytjmpfkolpgbebaa
