/- Contract: the next time that a cron names. The program's. -/
import Derived.Test.YtdbipmidjdhjpaaDoorCronMatch2
namespace Go.Proofs.YtdbipmidjdhjpaaDoor
open Go.ChangeShapes Go.WideShapes Go.ChangeAt Go.RowKit Civ
set_option linter.unusedVariables false
set_option linter.unusedSimpArgs false
theorem next_bad (S : Nat → Nat) (t : Int) (w : World) (hS : Sets S) (hC : cronB S = false) :
    Calls Tryd.prog 38 #[cronV S, .int .i64 t] w fun e w' => e = .returned (.tuple #[.int .i64 0, .int .i64 3]) ∧ Below w.heap.size w w' := by
  have HS := Lib.hid hS
  have HE := Lib.hid (cronE_no hC)
  clear hS hC
  unfold cronV
  go_enter Tryd.func38, Tryd.ntmps38
  go_wp2_with (go_at_call 52; refine Calls.mono (cCheck_any S _ HS.out) ?_; rintro e w1 ⟨rfl, hb1⟩; rw [HE.out]; have hB1 : Below w.heap.size w w1 := Below.trans (by go_grown) (hb1.mono (by simp)))
  go_ret2
  exact ⟨ret_ii rfl rfl, hB1⟩
theorem next_out (S : Nat → Nat) (t : Int) (w : World) (hS : Sets S) (hC : cronB S = true) (ht : t < -1 ∨ 5258964959 < t) :
    Calls Tryd.prog 38 #[cronV S, .int .i64 t] w fun e w' => e = .returned (.tuple #[.int .i64 0, .int .i64 4]) ∧ Below w.heap.size w w' := by
  have HS := Lib.hid hS
  have HE := Lib.hid (cronE_yes hC)
  clear hS hC
  unfold cronV
  rcases ht with ht | ht
  all_goals
    go_enter Tryd.func38, Tryd.ntmps38
    go_wp2_with (go_at_call 52; refine Calls.mono (cCheck_any S _ HS.out) ?_; rintro e w1 ⟨rfl, hb1⟩; rw [HE.out]; have hB1 : Below w.heap.size w w1 := Below.trans (by go_grown) (hb1.mono (by simp)))
    all_goals
      go_ret2
      exact ⟨ret_ii rfl rfl, hB1⟩
def nextE (ok : Bool) : Int := if ok then 0 else 5
theorem hit_at {S : Nat → Nat} {k n r : Int} (hk : k = 1440 * n + r) (h0 : 0 ≤ r) (h1 : r < 1440) : Hit S k ↔ Min S r ∧ Fit S n := by
  unfold Hit
  rw [min_day (a := k) (b := r) (by omega), show k / 1440 = n from by omega]
theorem day_split {k n : Int} (h1 : 1440 * n ≤ k) (h2 : k < 1440 * (n + 1)) : ∃ r, k = 1440 * n + r ∧ 0 ≤ r ∧ r < 1440 := ⟨k - 1440 * n, by omega, by omega, by omega⟩
set_option maxHeartbeats 8000000 in
theorem next_in (S : Nat → Nat) (t T v : Int) (ok : Bool) (w : World) (hS : Sets S) (hT : Tab w) (hBr : Bruijn w) (hC : cronB S = true) (t0 : -1 ≤ t) (t1 : t ≤ 5258964959) (hTt : T = t + 1) (hN : NextIs S t v ok) :
    Calls Tryd.prog 38 #[cronV S, .int .i64 t] w fun e w' => e = .returned (.tuple #[.int .i64 v, .int .i64 (nextE ok)]) ∧ Below w.heap.size w w' := by
  have HS := Lib.hid hS
  have HC := Lib.hid hC
  have HE := Lib.hid (cronE_yes hC)
  have HTB := Lib.hid hT
  have HBJ := Lib.hid hBr
  have HN := Lib.hid hN
  have HTT := Lib.hid hTt
  have T0 : 0 ≤ T := by omega
  have T1 : T ≤ 5258964960 := by omega
  clear hS hC hT hBr hN
  unfold cronV
  go_enter Tryd.func38, Tryd.ntmps38
  clear hTt
  go_upto_region 7 with (go_at_call 52; refine Calls.mono (cCheck_any S _ HS.out) ?_; rintro e w1 ⟨rfl, hb1⟩; rw [HE.out]; have hB1 : Below w.heap.size w w1 := Below.trans (by go_grown) (hb1.mono (by simp)); have hK1 := (CronAt.new S w 58).below hb1 (by simp))
  simp only [← HTT.out]
  go_wp2_with fail
  go_loopw [8] (fun x wr => ∃ n : Nat, T / 1440 ≤ n ∧ n ≤ T / 1440 + 146098 ∧ x = .int .i64 n ∧ Hid (∀ k, t < k → k < 1440 * n → ¬ Hit S k) ∧ Below w.heap.size w wr ∧ Hid (CronAt w.heap.size S wr)) (fun x _ => 5000000 - (intOf x).toNat)
  case atStart => exact ⟨(T / 1440).toNat, by omega, by omega, by rw [Int.toNat_of_nonneg (by omega)], Lib.hid fun k k1 k2 => absurd k2 (by have := HTT.out; omega), by go_grown, Lib.hid hK1⟩
  case round =>
    obtain ⟨n, n1, n2, rfl, HH, hB, HK⟩ := hrel
    by_cases hle : (n : Int) ≤ 3652058 ∧ (n : Int) ≤ T / 1440 + 146097
    · have hml : ¬ ((if T / 1440 + 146097 < 3652058 then T / 1440 + 146097 else 3652058) < (n : Int)) := by split <;> omega
      obtain ⟨hk, c0, c1, c2, c3, c4⟩ := HK.out
      have n0 : 0 ≤ (n : Int) := by omega
      by_cases hf : Fit S n
      · have HFT := Lib.hid (show true = true ↔ Fit S n from by simp [hf])
        by_cases hnf : (n : Int) = T / 1440
        · have hnb : ((n : Int) == T / 1440) = true := by simp [hnf]
          have HNF := Lib.hid hnf
          have hfr : ∀ r, t < 1440 * (n : Int) + r → T % 1440 ≤ r := fun r hr => by have := HTT.out; omega
          have HFR := Lib.hid hfr
          clear hnf hfr
          obtain ⟨m, ok1, hWi⟩ := withinIs_ex S (T % 1440)
          have HWI := Lib.hid hWi
          rcases hWi with ⟨rfl, m1, m2, m3, m4⟩ | ⟨rfl, rfl, m4⟩
          · have HV := Lib.hid (HN.out.found (u := 1440 * n + m) (by have := HTT.out; have := HNF.out; omega) (by omega) ((hit_at (n := n) (r := m) rfl (by omega) m2).2 ⟨m3, hf⟩) (fun k k1 k2 => by
              by_cases hk : k < 1440 * n
              · exact HH.out k k1 hk
              · intro hh
                obtain ⟨r, r1, r2, r3⟩ := day_split (k := k) (n := n) (by omega) (by omega)
                have hm := ((hit_at r1 r2 r3).1 hh).1
                exact m4 r (HFR.out r (by omega)) (by omega) hm))
            clear m3 m4 hf
            go_wp2_with (first
              | (go_at_call 54; refine Calls.mono (day_any S n true _ HS.out (tab_on HTB.out hB) n0 hle.1 HFT.out) ?_; rintro e w2 ⟨rfl, hb2⟩; have hk2 : w.heap.size < w2.heap.size := Nat.lt_of_lt_of_le hk hb2.size; have hB2 : Below w.heap.size w w2 := hB.trans (hb2.mono hB.size); obtain ⟨-, d0, d1, d2, d3, d4⟩ := HK.out.below hb2 hk)
              | (go_at_call 55; refine Calls.mono (within_any S _ m true _ HS.out HC.out (bruijn_on HBJ.out hB2) (by omega) (by omega) HWI.out) ?_; rintro e w3 ⟨rfl, hb3⟩; have hB3 : Below w.heap.size w w3 := hB2.trans (hb3.mono hB2.size)))
            all_goals
              go_ret2
              exact ⟨ret_ii HV.out.1 (by rw [← HV.out.2]; rfl), hB3⟩
          · have HH2 := Lib.hid (show ∀ k, t < k → k < 1440 * ((n + 1 : Nat) : Int) → ¬ Hit S k from fun k k1 k2 => by
              by_cases hk : k < 1440 * n
              · exact HH.out k k1 hk
              · intro hh
                obtain ⟨r, r1, r2, r3⟩ := day_split (k := k) (n := n) (by omega) (by omega)
                have hm := ((hit_at r1 r2 r3).1 hh).1
                exact m4 r (HFR.out r (by omega)) (by omega) hm)
            clear m4 hf
            go_wp2_with (first
              | (go_at_call 54; refine Calls.mono (day_any S n true _ HS.out (tab_on HTB.out hB) n0 hle.1 HFT.out) ?_; rintro e w2 ⟨rfl, hb2⟩; have hk2 : w.heap.size < w2.heap.size := Nat.lt_of_lt_of_le hk hb2.size; have hB2 : Below w.heap.size w w2 := hB.trans (hb2.mono hB.size); obtain ⟨-, d0, d1, d2, d3, d4⟩ := HK.out.below hb2 hk)
              | (go_at_call 55; refine Calls.mono (within_any S _ 0 false _ HS.out HC.out (bruijn_on HBJ.out hB2) (by omega) (by omega) HWI.out) ?_; rintro e w3 ⟨rfl, hb3⟩; have hB3 : Below w.heap.size w w3 := hB2.trans (hb3.mono hB2.size); have HK3 := Lib.hid ((HK.out.below hb2 hk).below hb3 hk2)))
            all_goals
              go_roundw
              case rel => exact ⟨n + 1, by omega, by omega, rfl, HH2, hB3, HK3⟩
              case measure => simp [intOf]; omega
        · have hnb : ((n : Int) == T / 1440) = false := by simp; omega
          have hgt : T / 1440 < n := by omega
          clear hnf
          obtain ⟨m, ok1, hWi⟩ := withinIs_ex S 0
          have HWI := Lib.hid hWi
          rcases hWi with ⟨rfl, m1, m2, m3, m4⟩ | ⟨rfl, rfl, m4⟩
          · have HV := Lib.hid (HN.out.found (u := 1440 * n + m) (by have := HTT.out; omega) (by omega) ((hit_at (n := n) (r := m) rfl (by omega) m2).2 ⟨m3, hf⟩) (fun k k1 k2 => by
              by_cases hk : k < 1440 * n
              · exact HH.out k k1 hk
              · intro hh
                obtain ⟨r, r1, r2, r3⟩ := day_split (k := k) (n := n) (by omega) (by omega)
                have hm := ((hit_at r1 r2 r3).1 hh).1
                exact m4 r (by have := HTT.out; omega) (by omega) hm))
            clear m3 m4 hf
            go_wp2_with (first
              | (go_at_call 54; refine Calls.mono (day_any S n true _ HS.out (tab_on HTB.out hB) n0 hle.1 HFT.out) ?_; rintro e w2 ⟨rfl, hb2⟩; have hk2 : w.heap.size < w2.heap.size := Nat.lt_of_lt_of_le hk hb2.size; have hB2 : Below w.heap.size w w2 := hB.trans (hb2.mono hB.size); obtain ⟨-, d0, d1, d2, d3, d4⟩ := HK.out.below hb2 hk)
              | (go_at_call 55; refine Calls.mono (within_any S _ m true _ HS.out HC.out (bruijn_on HBJ.out hB2) (by omega) (by omega) HWI.out) ?_; rintro e w3 ⟨rfl, hb3⟩; have hB3 : Below w.heap.size w w3 := hB2.trans (hb3.mono hB2.size)))
            all_goals
              go_ret2
              exact ⟨ret_ii HV.out.1 (by rw [← HV.out.2]; rfl), hB3⟩
          · have HH2 := Lib.hid (show ∀ k, t < k → k < 1440 * ((n + 1 : Nat) : Int) → ¬ Hit S k from fun k k1 k2 => by
              by_cases hk : k < 1440 * n
              · exact HH.out k k1 hk
              · intro hh
                obtain ⟨r, r1, r2, r3⟩ := day_split (k := k) (n := n) (by omega) (by omega)
                have hm := ((hit_at r1 r2 r3).1 hh).1
                exact m4 r (by have := HTT.out; omega) (by omega) hm)
            clear m4 hf
            go_wp2_with (first
              | (go_at_call 54; refine Calls.mono (day_any S n true _ HS.out (tab_on HTB.out hB) n0 hle.1 HFT.out) ?_; rintro e w2 ⟨rfl, hb2⟩; have hk2 : w.heap.size < w2.heap.size := Nat.lt_of_lt_of_le hk hb2.size; have hB2 : Below w.heap.size w w2 := hB.trans (hb2.mono hB.size); obtain ⟨-, d0, d1, d2, d3, d4⟩ := HK.out.below hb2 hk)
              | (go_at_call 55; refine Calls.mono (within_any S _ 0 false _ HS.out HC.out (bruijn_on HBJ.out hB2) (by omega) (by omega) HWI.out) ?_; rintro e w3 ⟨rfl, hb3⟩; have hB3 : Below w.heap.size w w3 := hB2.trans (hb3.mono hB2.size); have HK3 := Lib.hid ((HK.out.below hb2 hk).below hb3 hk2)))
            all_goals
              go_roundw
              case rel => exact ⟨n + 1, by omega, by omega, rfl, HH2, hB3, HK3⟩
              case measure => simp [intOf]; omega
      · have HFT := Lib.hid (show false = true ↔ Fit S n from by simp [hf])
        have HH2 := Lib.hid (show ∀ k, t < k → k < 1440 * ((n + 1 : Nat) : Int) → ¬ Hit S k from fun k k1 k2 => by
          by_cases hk : k < 1440 * n
          · exact HH.out k k1 hk
          · intro hh
            obtain ⟨r, r1, r2, r3⟩ := day_split (k := k) (n := n) (by omega) (by omega)
            exact hf ((hit_at r1 r2 r3).1 hh).2)
        clear hf
        go_wp2_with (go_at_call 54; refine Calls.mono (day_any S n false _ HS.out (tab_on HTB.out hB) n0 hle.1 HFT.out) ?_; rintro e w2 ⟨rfl, hb2⟩; have hB2 : Below w.heap.size w w2 := hB.trans (hb2.mono hB.size); have HK2 := Lib.hid (HK.out.below hb2 hk))
        all_goals
          go_roundw
          case rel => exact ⟨n + 1, by omega, by omega, rfl, HH2, hB2, HK2⟩
          case measure => simp [intOf]; omega
    · have HV := Lib.hid (HN.out.none fun k k1 k2 => by
        by_cases hn : (n : Int) ≤ 3652058
        · refine none_ever (S := S) (t := t) t0 (fun j j1 j2 => HH.out j j1 ?_) k k1
          have := HTT.out
          rw [← this] at j2
          omega
        · exact HH.out k k1 (by omega))
      have hdm : decide ((n : Int) ≤ min 3652058 (T / 1440 + 146097)) = false := by simp; omega
      go_wp2_with fail
      all_goals
        go_ret2
        exact ⟨ret_ii HV.out.1 (by rw [← HV.out.2]; rfl), hB⟩
end Go.Proofs.YtdbipmidjdhjpaaDoor
