/- Contracts: a cron's day, by the plain words; the first minute within a day. The program's and the document's. -/
import Derived.Test.YtdbipmidjdhjpaaDoorCronFit2
namespace Go.Proofs.YtdbipmidjdhjpaaDoor
open Go.ChangeShapes Go.WideShapes Go.ChangeAt Go.RowKit Civ
set_option linter.unusedVariables false
set_option linter.unusedSimpArgs false
theorem fit_bool {S : Nat → Nat} {n y m d : Int} {v : Bool} (hD : IsDate n y m d) (hv : v = true ↔ Fit S n) : dayB S m d ((n + 1) % 7) = v := by
  rw [fit_at hD] at hv
  rw [Bool.eq_iff_iff]
  exact hv.symm
theorem day_any (S : Nat → Nat) (n : Int) (v : Bool) (w : World) (hS : Sets S) (hT : Tab w) (h0 : 0 ≤ n) (h1 : n ≤ 3652058) (hv : v = true ↔ Fit S n) :
    Calls Tryd.prog 54 #[cronV S, .int .i64 n] w fun e w' => e = .returned (.bool v) ∧ Below w.heap.size w w' := by
  obtain ⟨y, m, d, hD⟩ := isDate_ex h0
  rw [← fit_bool hD hv]
  exact day_core S n y m d w hS hT h0 h1 hD
theorem fits_bool (S : Nat → Nat) (n : Int) (v : Bool) (w : World) (hS : Sets S) (hC : cronB S = true) (h0 : 0 ≤ n) (h1 : n ≤ 3652058) (hv : v = true ↔ Fit S n) :
    Calls Tryd.prog 58 #[cronV S, .int .i64 n] w fun e w' => e = .returned (.bool v) ∧ Below w.heap.size w w' := by
  obtain ⟨y, m, d, hD⟩ := isDate_ex h0
  rw [← fit_bool hD hv]
  exact fits_core S n y m d w hS hC h0 h1 hD
theorem bit_shift (s m j : Nat) : bit (s / 2 ^ m) j = bit s (m + j) := by
  rw [bit, bit, Nat.div_div_eq_div_mul, Nat.pow_add]
theorem not_min {S : Nat → Nat} {k : Int} {h : Nat} (hk : k % 1440 / 60 = h) (hb : bit (S 1) h = false) : ¬ Min S k := by
  rintro ⟨_, h2⟩
  rw [hk] at h2
  simp [hb] at h2
theorem not_min0 {S : Nat → Nat} {k : Int} {r : Nat} (hk : k % 60 = r) (hb : bit (S 0) r = false) : ¬ Min S k := by
  rintro ⟨h2, _⟩
  rw [hk] at h2
  simp [hb] at h2
/-- one hour, from one minute of it on -/
theorem hour_found {S : Nat → Nat} {h m c : Nat} (hh : h < 24) (hf : fieldB (S 0) 0 = true) (hb1 : bit (S 1) h = true) (hc : bit (S 0 / 2 ^ m) c = true) (hl : ∀ j, j < c → bit (S 0 / 2 ^ m) j = false) (h64 : m + c < 64) :
    m + c ≤ 59 ∧ Min S (60 * h + m + c) ∧ ∀ k : Int, 60 * h + m ≤ k → k < 60 * h + m + c → ¬ Min S k := by
  rw [bit_shift] at hc
  have h59 : m + c ≤ 59 := by have := (field_in hf h64 hc).2; simpa [hi, hiT] using this
  refine ⟨h59, ⟨?_, ?_⟩, fun k k1 k2 => ?_⟩
  · rw [show (60 * (h : Int) + m + c) % 60 = ((m + c : Nat) : Int) from by omega, Int.toNat_natCast]; exact hc
  · rw [show (60 * (h : Int) + m + c) % 1440 / 60 = ((h : Nat) : Int) from by omega, Int.toNat_natCast]; exact hb1
  · refine not_min0 (r := (k - 60 * h).toNat) (by omega) ?_
    have := hl ((k - 60 * h).toNat - m) (by omega)
    rw [bit_shift, show m + ((k - 60 * h).toNat - m) = (k - 60 * h).toNat from by omega] at this
    exact this
theorem hour_none {S : Nat → Nat} {h m : Nat} (h0 : S 0 / 2 ^ m = 0) : ∀ k : Int, 60 * h + m ≤ k → k < 60 * h + 60 → ¬ Min S k := fun k k1 k2 => by
  refine not_min0 (r := (k - 60 * h).toNat) (by omega) ?_
  have := bit_shift (S 0) m ((k - 60 * h).toNat - m)
  rw [h0, show m + ((k - 60 * h).toNat - m) = (k - 60 * h).toNat from by omega] at this
  rw [← this]
  simp [bit]
set_option maxHeartbeats 4000000 in
theorem within_any (S : Nat → Nat) (f v : Int) (ok : Bool) (w : World) (hS : Sets S) (hC : cronB S = true) (hT : Bruijn w) (f0 : 0 ≤ f) (f1 : f < 1440) (hW : WithinIs S f v ok) :
    Calls Tryd.prog 55 #[cronV S, .int .i64 f] w fun e w' => e = .returned (.tuple #[.int .i64 v, .bool ok]) ∧ Below w.heap.size w w' := by
  have s0 := hS 0
  have s1 := hS 1
  have F0 := Lib.hid (cron_at hC (j := 0) (by omega))
  have HW := Lib.hid hW
  have HT := Lib.hid hT
  clear hS hC hW hT
  unfold cronV
  go_enter Tryd.func55, Tryd.ntmps55
  go_wp2_with fail
  go_loopw [6] (fun v wr => ∃ h : Nat, f / 60 ≤ h ∧ h ≤ 24 ∧ v = .int .i64 h ∧ Hid (∀ k, f ≤ k → k < 60 * h → ¬ Min S k) ∧ SameW wr (w.alloc (.cells #[.int .u64 (S 0 : Nat), .int .u64 (S 1 : Nat), .int .u64 (S 2 : Nat), .int .u64 (S 3 : Nat), .int .u64 (S 4 : Nat)] 58))) (fun v _ => 24 - (intOf v).toNat)
  case atStart => exact ⟨(f / 60).toNat, by omega, by omega, by rw [Int.toNat_of_nonneg (by omega)], Lib.hid fun k k1 k2 => absurd k2 (by omega), SameW.refl _⟩
  case round =>
    obtain ⟨h, h1, h2, rfl, HN, hw⟩ := hrel
    obtain rfl := hw.eq
    clear hw
    by_cases hlt : h < 24
    · cases hb : bit (S 1) h with
      | false =>
        have HB := Lib.hid (show bit (S 1) (h : Int).toNat = false from by simpa using hb)
        have HN2 := Lib.hid (show ∀ k, f ≤ k → k < 60 * ((h + 1 : Nat) : Int) → ¬ Min S k from fun k k1 k2 => by
          by_cases hk : k < 60 * h
          · exact HN.out k k1 hk
          · exact not_min (h := h) (by omega) hb)
        clear hb
        go_wp2_with (go_at_call 53; refine Calls.mono (has_any (S 1) h _ s1 (by omega) (by omega)) ?_; rintro e w1 ⟨rfl, rfl⟩; rw [HB.out])
        go_roundw
        case rel => exact ⟨h + 1, by omega, by omega, rfl, HN2, SameW.refl _⟩
        case measure => simp [intOf]; omega
      | true =>
        have HB := Lib.hid (show bit (S 1) (h : Int).toNat = true from by simpa using hb)
        have HB1 := Lib.hid hb
        clear hb
        by_cases hm : (h : Int) = f / 60
        · obtain ⟨mn, hmn⟩ := Int.eq_ofNat_of_zero_le (show 0 ≤ f % 60 by omega)
          have hmn59 : mn < 60 := by omega
          have HFM := Lib.hid (show ∀ k, f ≤ k → ¬ k < 60 * h → 60 * (h : Int) + mn ≤ k from fun k k1 k2 => by omega)
          have HFL := Lib.hid (show f ≤ 60 * (h : Int) + mn from by omega)
          have HM := Lib.hid hm
          have HMN := Lib.hid hmn
          have hmb : ((h : Int) == f / 60) = true := by simp [hm]
          have he : ((S 0 : Nat) : Int) / 2 ^ mn = ((S 0 / 2 ^ mn : Nat) : Int) := by simp
          have HE := Lib.hid he
          clear hm hmn he
          go_upto_region 9 with (go_at_call 53; refine Calls.mono (has_any (S 1) h _ s1 (by omega) (by omega)) ?_; rintro e w1 ⟨rfl, rfl⟩; rw [HB.out])
          simp only [HMN.out, Int.toNat_natCast, Int.ofNat_eq_natCast, HE.out]
          generalize hX : S 0 / 2 ^ mn = x
          have HX := Lib.hid hX
          clear hX
          have hx64 : x < 18446744073709551616 := by
            have := HX.out
            have := Nat.div_le_self (S 0) (2 ^ mn)
            omega
          by_cases hx0 : x = 0
          · have HN2 := Lib.hid (show ∀ k, f ≤ k → k < 60 * ((h + 1 : Nat) : Int) → ¬ Min S k from fun k k1 k2 => by
              by_cases hk : k < 60 * h
              · exact HN.out k k1 hk
              · exact hour_none (h := h) (m := mn) (HX.out.trans hx0) k (by have := HFM.out k k1 (by omega); omega) (by omega))
            subst hx0
            go_wp2_with fail
            go_roundw
            case rel => exact ⟨h + 1, by omega, by omega, rfl, HN2, SameW.refl _⟩
            case measure => simp [intOf]; omega
          · obtain ⟨c1, c2, c3⟩ := ctz_facts hx64 hx0
            have HTZ := Lib.hid (fun W hW => tz_any x W hx64 hx0 hW)
            generalize Lib.ctz 64 x = c at *
            have hmc : mn + c < 64 := by
              refine Decidable.byContradiction fun hge => ?_
              have h1 := bit_shift (S 0) mn c
              rw [HX.out, c2, bit_high s0 (by omega)] at h1
              cases h1
            obtain ⟨g1, g2, g3⟩ := hour_found (S := S) (h := h) (m := mn) (c := c) hlt F0.out HB1.out (by rw [HX.out]; exact c2) (fun j hj => by rw [HX.out]; exact c3 j hj) hmc
            have HV := Lib.hid (HW.out.found (u := 60 * h + mn + c) (by have := HFL.out; omega) (by omega) g2 (fun k k1 k2 => by
              by_cases hk : k < 60 * h
              · exact HN.out k k1 hk
              · exact g3 k (by have := HFM.out k k1 (by omega); omega) k2))
            have hxb : ((x : Int) != 0) = true := by simp; omega
            have hxb2 : ¬ ((x : Int) = 0) := by omega
            clear g2 g3 c2 c3 hx0
            go_wp2_with (go_at_call 59; refine Calls.mono (HTZ.out _ (bruijn_on HT.out (by go_grown))) ?_; rintro e w1 ⟨rfl, rfl⟩)
            go_ret2
            exact ⟨ret_ib HV.out.1 HV.out.2, by go_grown⟩
        · have HFM := Lib.hid (show ∀ k, f ≤ k → ¬ k < 60 * h → 60 * (h : Int) + (0 : Nat) ≤ k from fun k k1 k2 => by omega)
          have HFL := Lib.hid (show f ≤ 60 * (h : Int) + (0 : Nat) from by omega)
          have hmb : ((h : Int) == f / 60) = false := by simp; omega
          have hx0 : S 0 ≠ 0 := (field_yes (by omega) s0 F0.out).1
          have hx64 := s0
          have HX := Lib.hid (show S 0 / 2 ^ 0 = S 0 from by simp)
          clear hm
          go_upto_region 9 with (go_at_call 53; refine Calls.mono (has_any (S 1) h _ s1 (by omega) (by omega)) ?_; rintro e w1 ⟨rfl, rfl⟩; rw [HB.out])
          obtain ⟨c1, c2, c3⟩ := ctz_facts hx64 hx0
          have HTZ := Lib.hid (fun W hW => tz_any (S 0) W hx64 hx0 hW)
          generalize Lib.ctz 64 (S 0) = c at *
          have hmc : 0 + c < 64 := by
            refine Decidable.byContradiction fun hge => ?_
            have h1 := bit_shift (S 0) 0 c
            rw [HX.out, c2, bit_high s0 (by omega)] at h1
            cases h1
          obtain ⟨g1, g2, g3⟩ := hour_found (S := S) (h := h) (m := 0) (c := c) hlt F0.out HB1.out (by rw [HX.out]; exact c2) (fun j hj => by rw [HX.out]; exact c3 j hj) hmc
          have HV := Lib.hid (HW.out.found (u := 60 * h + 0 + c) (by have := HFL.out; omega) (by omega) g2 (fun k k1 k2 => by
            by_cases hk : k < 60 * h
            · exact HN.out k k1 hk
            · exact g3 k (by have := HFM.out k k1 (by omega); omega) k2))
          have hxb : (((S 0) : Int) != 0) = true := by simp; omega
          have hxb2 : ¬ (((S 0) : Int) = 0) := by omega
          clear g2 g3 c2 c3 hx0
          go_wp2_with (go_at_call 59; refine Calls.mono (HTZ.out _ (bruijn_on HT.out (by go_grown))) ?_; rintro e w1 ⟨rfl, rfl⟩)
          go_ret2
          exact ⟨ret_ib (by have := HV.out.1; simpa using this) HV.out.2, by go_grown⟩
    · have HV := Lib.hid (HW.out.none fun k k1 k2 => HN.out k k1 (by omega))
      go_wp2_with fail
      go_ret2
      exact ⟨ret_ib HV.out.1 HV.out.2, by go_grown⟩
end Go.Proofs.YtdbipmidjdhjpaaDoor
