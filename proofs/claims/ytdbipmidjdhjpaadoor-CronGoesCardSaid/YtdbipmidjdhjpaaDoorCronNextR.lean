/- Contract: the next time that a cron names. The document's. -/
import Derived.Test.YtdbipmidjdhjpaaDoorCronNext
namespace Go.Proofs.YtdbipmidjdhjpaaDoor
open Go.ChangeShapes Go.WideShapes Go.ChangeAt Go.RowKit Civ
set_option linter.unusedVariables false
set_option linter.unusedSimpArgs false
set_option maxRecDepth 100000 in
set_option maxHeartbeats 8000000 in
theorem cronNext_any (S : Nat → Nat) (t v : Int) (ok : Bool) (w : World) (hS : Sets S) (hC : cronB S = true) (t0 : -1 ≤ t) (t1 : t ≤ 5258964959) (hN : NextIs S t v ok) :
    Calls Tryd.prog 41 #[cronV S, .int .i64 t] w fun e w' => e = .returned (.tuple #[.int .i64 v, .bool ok]) ∧ Below w.heap.size w w' := by
  have s0 := hS 0
  have s1 := hS 1
  have HS := Lib.hid hS
  have HC := Lib.hid hC
  have HN := Lib.hid hN
  clear hS hC hN
  unfold cronV
  go_enter Tryd.func41, Tryd.ntmps41
  go_wp2_with fail
  go_loopw [1, 6] (fun p q wr => ∃ (x dd : Int), p = .int .i64 x ∧ q = .int .i64 dd ∧ 0 ≤ dd ∧ dd ≤ 150000 ∧ t < x ∧ x ≤ 5258964960 ∧ Hid ((dd = 0 ∧ x = t + 1) ∨ x = 1440 * ((t + 1) / 1440 + dd)) ∧ Hid (∀ k, t < k → k < x → ¬ Hit S k) ∧ Below w.heap.size w wr ∧ Hid (CronAt w.heap.size S wr)) (fun p _ _ => 5258964960 - (intOf p).toNat)
  case atStart => exact ⟨t + 1, 0, rfl, rfl, by omega, by omega, by omega, by omega, Lib.hid (Or.inl ⟨rfl, rfl⟩), Lib.hid fun k k1 k2 => absurd k2 (by omega), by go_grown, Lib.hid (CronAt.new S w _)⟩
  case round =>
    obtain ⟨x, dd, rfl, rfl, d0, d1, x0, x1, HX, HH, hB, HK⟩ := hrel
    obtain ⟨hk, c0, c1, c2, c3, c4⟩ := HK.out
    have xn : 0 ≤ x := by omega
    by_cases hle : x ≤ 5258964959
    · by_cases hd : dd < 150000
      · have n0 : 0 ≤ x / 1440 := by omega
        have n1 : x / 1440 ≤ 3652058 := by omega
        have hXX : x / 1440 = (t + 1) / 1440 + dd := by
          rcases HX.out with ⟨rfl, rfl⟩ | h
          · omega
          · omega
        have HXX := Lib.hid hXX
        clear hXX
        by_cases hf : Fit S (x / 1440)
        · have HF := Lib.hid hf
          have HFT := Lib.hid (show true = true ↔ Fit S (x / 1440) from by simp [hf])
          clear hf
          go_wp2_with (go_at_call 58; refine Calls.mono (fits_bool S (x / 1440) true _ HS.out HC.out n0 n1 HFT.out) ?_; rintro e w2 ⟨rfl, hb2⟩; have hk2 : w.heap.size < w2.heap.size := Nat.lt_of_lt_of_le hk hb2.size; have hB2 : Below w.heap.size w w2 := hB.trans (hb2.mono hB.size); have hK2 := HK.out.below hb2 hk)
          obtain ⟨-, e0, e1, e2, e3, e4⟩ := id hK2
          have HK2 := Lib.hid hK2
          clear hK2
          go_loopw [1] (fun p wx => ∃ y : Int, p = .int .i64 y ∧ x ≤ y ∧ y ≤ x / 1440 * 1440 + 1440 ∧ Hid (∀ k, t < k → k < y → ¬ Hit S k) ∧ SameW wx w2) (fun p _ => (x / 1440 * 1440 + 1440 - (intOf p)).toNat)
          case atStart => exact ⟨x, rfl, by omega, by omega, HH, SameW.refl _⟩
          case round =>
            obtain ⟨y, rfl, y0, y1, HY, hw⟩ := hrel
            obtain rfl := hw.eq
            clear hw
            have yn : 0 ≤ y := by omega
            have q0 : 0 ≤ y % 60 := by omega
            have q1 : y % 60 < 60 := by omega
            have q2 : 0 ≤ y % 1440 / 60 := by omega
            have q3 : y % 1440 / 60 < 24 := by omega
            by_cases hlt : y < x / 1440 * 1440 + 1440
            · cases h0 : bit (S 0) (y % 60).toNat with
              | false =>
                have H0 := Lib.hid h0
                have HY2 := Lib.hid (show ∀ k, t < k → k < y + 1 → ¬ Hit S k from fun k k1 k2 => by
                  by_cases e : k = y
                  · rw [e]; exact hit_no0 h0
                  · exact HY.out k k1 (by omega))
                clear h0
                go_wp2_with (go_at_call 57; refine Calls.mono (in_bit (S 0) (y % 60) _ s0 (by omega) (by omega)) ?_; rintro e w3 ⟨rfl, rfl⟩; rw [H0.out])
                go_roundw
                case rel => exact ⟨y + 1, rfl, by omega, by omega, HY2, SameW.refl _⟩
                case measure => simp [intOf]; omega
              | true =>
                have H0 := Lib.hid h0
                clear h0
                cases h1 : bit (S 1) (y % 1440 / 60).toNat with
                | false =>
                  have H1 := Lib.hid h1
                  have HY2 := Lib.hid (show ∀ k, t < k → k < y + 1 → ¬ Hit S k from fun k k1 k2 => by
                    by_cases e : k = y
                    · rw [e]; exact hit_no1 h1
                    · exact HY.out k k1 (by omega))
                  clear h1
                  go_wp2_with (first
                    | (go_at_call_of 57 (S 0); refine Calls.mono (in_bit (S 0) (y % 60) _ s0 (by omega) (by omega)) ?_; rintro e w3 ⟨rfl, rfl⟩; rw [H0.out])
                    | (go_at_call_of 57 (S 1); refine Calls.mono (in_bit (S 1) (y % 1440 / 60) _ s1 (by omega) (by omega)) ?_; rintro e w3 ⟨rfl, rfl⟩; rw [H1.out]))
                  go_roundw
                  case rel => exact ⟨y + 1, rfl, by omega, by omega, HY2, SameW.refl _⟩
                  case measure => simp [intOf]; omega
                | true =>
                  have H1 := Lib.hid h1
                  have HV := Lib.hid (HN.out.found (u := y) (by omega) (by omega) ⟨⟨H0.out, h1⟩, by rw [show y / 1440 = x / 1440 from by omega]; exact HF.out⟩ HY.out)
                  clear h1
                  go_wp2_with (first
                    | (go_at_call_of 57 (S 0); refine Calls.mono (in_bit (S 0) (y % 60) _ s0 (by omega) (by omega)) ?_; rintro e w3 ⟨rfl, rfl⟩; rw [H0.out])
                    | (go_at_call_of 57 (S 1); refine Calls.mono (in_bit (S 1) (y % 1440 / 60) _ s1 (by omega) (by omega)) ?_; rintro e w3 ⟨rfl, rfl⟩; rw [H1.out]))
                  go_ret2
                  exact ⟨ret_ib HV.out.1 HV.out.2, hB2⟩
            · have HO := Lib.hid (show y = 1440 * ((t + 1) / 1440 + (dd + 1)) from by have := HXX.out; omega)
              go_wp2_with fail
              go_roundw
              case rel => exact ⟨y, dd + 1, rfl, rfl, by omega, by omega, by omega, by omega, Lib.hid (Or.inr HO.out), HY, hB2, HK2⟩
              case measure => simp [intOf]; omega
        · have HFT := Lib.hid (show false = true ↔ Fit S (x / 1440) from by simp [hf])
          have HH2 := Lib.hid (show ∀ k, t < k → k < x / 1440 * 1440 + 1440 → ¬ Hit S k from fun k k1 k2 => by
            by_cases hk : k < x
            · exact HH.out k k1 hk
            · intro hh
              have := hh.2
              rw [show k / 1440 = x / 1440 from by omega] at this
              exact hf this)
          clear hf
          go_wp2_with (go_at_call 58; refine Calls.mono (fits_bool S (x / 1440) false _ HS.out HC.out n0 n1 HFT.out) ?_; rintro e w2 ⟨rfl, hb2⟩; have hB2 : Below w.heap.size w w2 := hB.trans (hb2.mono hB.size); have HK2 := Lib.hid (HK.out.below hb2 hk))
          go_roundw
          case rel => exact ⟨_, dd + 1, rfl, rfl, by omega, by omega, by omega, by omega, Lib.hid (Or.inr (by have := HXX.out; omega)), HH2, hB2, HK2⟩
          case measure => simp [intOf]; omega
      · have HV := Lib.hid (HN.out.none fun k k1 k2 => by
          refine none_ever (S := S) (t := t) t0 (fun j j1 j2 => HH.out j j1 ?_) k k1
          rcases HX.out with ⟨h1, h2⟩ | h <;> omega)
        go_wp2_with fail
        go_ret2
        exact ⟨ret_ib HV.out.1 HV.out.2, hB⟩
    · have HV := Lib.hid (HN.out.none fun k k1 k2 => HH.out k k1 (by omega))
      go_wp2_with fail
      go_ret2
      exact ⟨ret_ib HV.out.1 HV.out.2, hB⟩
end Go.Proofs.YtdbipmidjdhjpaaDoor
