/- The law of crons, walked: it answers true. -/
import Derived.Test.YtdbipmidjdhjpaaDoorCronNextR
namespace Go.Proofs.YtdbipmidjdhjpaaDoor
open Go.ChangeShapes Go.WideShapes Go.ChangeAt Go.RowKit Civ
set_option linter.unusedVariables false
set_option linter.unusedSimpArgs false
set_option maxHeartbeats 8000000 in
theorem goes_bad (S : Nat → Nat) (t : Int) (w : World) (hS : Sets S) (hC : cronB S = false) :
    Calls Tryd.prog 7 #[cronV S, .int .i64 t] w fun e w' => e = .returned (.bool true) ∧ Below w.heap.size w w' := by
  have HS := Lib.hid hS
  have HC := Lib.hid hC
  have HE := Lib.hid (cronE_no hC)
  clear hS hC
  unfold cronV
  go_enter Tryd.func7, Tryd.ntmps7
  go_wp2_with (first
    | (go_at_call 37; refine Calls.mono (match_bad S t _ HS.out HC.out) ?_; rintro e w1 ⟨rfl, hb1⟩; have hk1 : w.heap.size < w1.heap.size := (by have := hb1.size; simp at this; omega); have hB1 : Below w.heap.size w w1 := Below.trans (by go_grown) (hb1.mono (by simp)); have HK1 := Lib.hid ((CronAt.new S w 58).below hb1 (by simp)); obtain ⟨-, c10, c11, c12, c13, c14⟩ := HK1.out)
    | (go_at_call 38; refine Calls.mono (next_bad S t _ HS.out HC.out) ?_; rintro e w2 ⟨rfl, hb2⟩; have hk2 : w.heap.size < w2.heap.size := Nat.lt_of_lt_of_le hk1 hb2.size; have hB2 : Below w.heap.size w w2 := hB1.trans (hb2.mono hB1.size); have HK2 := Lib.hid (HK1.out.below hb2 hk1); obtain ⟨-, c20, c21, c22, c23, c24⟩ := HK2.out)
    | (go_at_call 39; refine Calls.mono (cronFault_any S _ HS.out) ?_; rintro e w3 ⟨rfl, hb3⟩; rw [HE.out]; have hk3 : w.heap.size < w3.heap.size := Nat.lt_of_lt_of_le hk2 hb3.size; have hB3 : Below w.heap.size w w3 := hB2.trans (hb3.mono hB2.size); have HK3 := Lib.hid (HK2.out.below hb3 hk2); obtain ⟨-, c30, c31, c32, c33, c34⟩ := HK3.out))
  go_ret
  exact ⟨ret_bool rfl, hB3⟩
set_option maxHeartbeats 8000000 in
theorem goes_out (S : Nat → Nat) (t : Int) (w : World) (hS : Sets S) (hC : cronB S = true) (ht : t < -1 ∨ 5258964959 < t) :
    Calls Tryd.prog 7 #[cronV S, .int .i64 t] w fun e w' => e = .returned (.bool true) ∧ Below w.heap.size w w' := by
  have HS := Lib.hid hS
  have HC := Lib.hid hC
  have HE := Lib.hid (cronE_yes hC)
  have HT := Lib.hid ht
  have HT2 := Lib.hid (show t < 0 ∨ 5258964959 < t from by omega)
  clear hS hC
  unfold cronV
  rcases ht with ht | ht
  all_goals
    go_enter Tryd.func7, Tryd.ntmps7
    go_wp2_with (first
      | (go_at_call 37; refine Calls.mono (match_out S t _ HS.out HC.out HT2.out) ?_; rintro e w1 ⟨rfl, hb1⟩; have hk1 : w.heap.size < w1.heap.size := (by have := hb1.size; simp at this; omega); have hB1 : Below w.heap.size w w1 := Below.trans (by go_grown) (hb1.mono (by simp)); have HK1 := Lib.hid ((CronAt.new S w 58).below hb1 (by simp)); obtain ⟨-, c10, c11, c12, c13, c14⟩ := HK1.out)
      | (go_at_call 38; refine Calls.mono (next_out S t _ HS.out HC.out HT.out) ?_; rintro e w2 ⟨rfl, hb2⟩; have hk2 : w.heap.size < w2.heap.size := Nat.lt_of_lt_of_le hk1 hb2.size; have hB2 : Below w.heap.size w w2 := hB1.trans (hb2.mono hB1.size); have HK2 := Lib.hid (HK1.out.below hb2 hk1); obtain ⟨-, c20, c21, c22, c23, c24⟩ := HK2.out)
      | (go_at_call 39; refine Calls.mono (cronFault_any S _ HS.out) ?_; rintro e w3 ⟨rfl, hb3⟩; rw [HE.out]; have hk3 : w.heap.size < w3.heap.size := Nat.lt_of_lt_of_le hk2 hb3.size; have hB3 : Below w.heap.size w w3 := hB2.trans (hb3.mono hB2.size); have HK3 := Lib.hid (HK2.out.below hb3 hk2); obtain ⟨-, c30, c31, c32, c33, c34⟩ := HK3.out))
    all_goals
      go_ret
      exact ⟨ret_bool rfl, hB3⟩
set_option maxHeartbeats 8000000 in
theorem goes_in (S : Nat → Nat) (t : Int) (w : World) (hS : Sets S) (hT : Tab w) (hBr : Bruijn w) (hC : cronB S = true) (t0 : 0 ≤ t) (t1 : t ≤ 5258964959) :
    Calls Tryd.prog 7 #[cronV S, .int .i64 t] w fun e w' => e = .returned (.bool true) ∧ Below w.heap.size w w' := by
  obtain ⟨a, ha⟩ := bool_of (Hit S t)
  obtain ⟨v, ok, hN⟩ := nextIs_ex S t
  have hv0 : ok = false → v = 0 := fun h => by rcases hN with ⟨h', _⟩ | ⟨_, h', _⟩ <;> simp_all
  have HS := Lib.hid hS
  have HC := Lib.hid hC
  have HE := Lib.hid (cronE_yes hC)
  have HTB := Lib.hid hT
  have HBJ := Lib.hid hBr
  have HA := Lib.hid ha
  have HN := Lib.hid hN
  have tm : -1 ≤ t := by omega
  clear hS hC hT hBr ha hN
  unfold cronV
  cases ok with
  | false =>
    obtain rfl := hv0 rfl
    clear hv0
    go_enter Tryd.func7, Tryd.ntmps7
    go_wp2_with (first
      | (go_at_call 37; refine Calls.mono (match_in S t a _ HS.out (tab_on HTB.out (by go_grown)) HC.out t0 t1 HA.out) ?_; rintro e w1 ⟨rfl, hb1⟩; have hk1 : w.heap.size < w1.heap.size := (by have := hb1.size; simp at this; omega); have hB1 : Below w.heap.size w w1 := Below.trans (by go_grown) (hb1.mono (by simp)); have HK1 := Lib.hid ((CronAt.new S w 58).below hb1 (by simp)); obtain ⟨-, c10, c11, c12, c13, c14⟩ := HK1.out)
      | (go_at_call 38; refine Calls.mono (next_in S t (t + 1) 0 false _ HS.out (tab_on HTB.out hB1) (bruijn_on HBJ.out hB1) HC.out tm t1 rfl HN.out) ?_; rintro e w2 ⟨rfl, hb2⟩; have hk2 : w.heap.size < w2.heap.size := Nat.lt_of_lt_of_le hk1 hb2.size; have hB2 : Below w.heap.size w w2 := hB1.trans (hb2.mono hB1.size); have HK2 := Lib.hid (HK1.out.below hb2 hk1); obtain ⟨-, c20, c21, c22, c23, c24⟩ := HK2.out)
      | (go_at_call 39; refine Calls.mono (cronFault_any S _ HS.out) ?_; rintro e w3 ⟨rfl, hb3⟩; rw [HE.out]; have hk3 : w.heap.size < w3.heap.size := Nat.lt_of_lt_of_le hk2 hb3.size; have hB3 : Below w.heap.size w w3 := hB2.trans (hb3.mono hB2.size); have HK3 := Lib.hid (HK2.out.below hb3 hk2); obtain ⟨-, c30, c31, c32, c33, c34⟩ := HK3.out)
      | (go_at_call 40; refine Calls.mono (cronMatch_any S t a _ HS.out HC.out t0 t1 HA.out) ?_; rintro e w4 ⟨rfl, hb4⟩; have hk4 : w.heap.size < w4.heap.size := Nat.lt_of_lt_of_le hk3 hb4.size; have hB4 : Below w.heap.size w w4 := hB3.trans (hb4.mono hB3.size); have HK4 := Lib.hid (HK3.out.below hb4 hk3); obtain ⟨-, c40, c41, c42, c43, c44⟩ := HK4.out)
      | (go_at_call 41; refine Calls.mono (cronNext_any S t 0 false _ HS.out HC.out tm t1 HN.out) ?_; rintro e w5 ⟨rfl, hb5⟩; have hk5 : w.heap.size < w5.heap.size := Nat.lt_of_lt_of_le hk4 hb5.size; have hB5 : Below w.heap.size w w5 := hB4.trans (hb5.mono hB4.size); have HK5 := Lib.hid (HK4.out.below hb5 hk4); obtain ⟨-, c50, c51, c52, c53, c54⟩ := HK5.out))
    all_goals
      go_ret
      exact ⟨ret_bool (by first | rfl | simp), hB5⟩
  | true =>
    clear hv0
    go_enter Tryd.func7, Tryd.ntmps7
    go_wp2_with (first
      | (go_at_call 37; refine Calls.mono (match_in S t a _ HS.out (tab_on HTB.out (by go_grown)) HC.out t0 t1 HA.out) ?_; rintro e w1 ⟨rfl, hb1⟩; have hk1 : w.heap.size < w1.heap.size := (by have := hb1.size; simp at this; omega); have hB1 : Below w.heap.size w w1 := Below.trans (by go_grown) (hb1.mono (by simp)); have HK1 := Lib.hid ((CronAt.new S w 58).below hb1 (by simp)); obtain ⟨-, c10, c11, c12, c13, c14⟩ := HK1.out)
      | (go_at_call 38; refine Calls.mono (next_in S t (t + 1) v true _ HS.out (tab_on HTB.out hB1) (bruijn_on HBJ.out hB1) HC.out tm t1 rfl HN.out) ?_; rintro e w2 ⟨rfl, hb2⟩; have hk2 : w.heap.size < w2.heap.size := Nat.lt_of_lt_of_le hk1 hb2.size; have hB2 : Below w.heap.size w w2 := hB1.trans (hb2.mono hB1.size); have HK2 := Lib.hid (HK1.out.below hb2 hk1); obtain ⟨-, c20, c21, c22, c23, c24⟩ := HK2.out)
      | (go_at_call 39; refine Calls.mono (cronFault_any S _ HS.out) ?_; rintro e w3 ⟨rfl, hb3⟩; rw [HE.out]; have hk3 : w.heap.size < w3.heap.size := Nat.lt_of_lt_of_le hk2 hb3.size; have hB3 : Below w.heap.size w w3 := hB2.trans (hb3.mono hB2.size); have HK3 := Lib.hid (HK2.out.below hb3 hk2); obtain ⟨-, c30, c31, c32, c33, c34⟩ := HK3.out)
      | (go_at_call 40; refine Calls.mono (cronMatch_any S t a _ HS.out HC.out t0 t1 HA.out) ?_; rintro e w4 ⟨rfl, hb4⟩; have hk4 : w.heap.size < w4.heap.size := Nat.lt_of_lt_of_le hk3 hb4.size; have hB4 : Below w.heap.size w w4 := hB3.trans (hb4.mono hB3.size); have HK4 := Lib.hid (HK3.out.below hb4 hk3); obtain ⟨-, c40, c41, c42, c43, c44⟩ := HK4.out)
      | (go_at_call 41; refine Calls.mono (cronNext_any S t v true _ HS.out HC.out tm t1 HN.out) ?_; rintro e w5 ⟨rfl, hb5⟩; have hk5 : w.heap.size < w5.heap.size := Nat.lt_of_lt_of_le hk4 hb5.size; have hB5 : Below w.heap.size w w5 := hB4.trans (hb5.mono hB4.size); have HK5 := Lib.hid (HK4.out.below hb5 hk4); obtain ⟨-, c50, c51, c52, c53, c54⟩ := HK5.out))
    all_goals
      go_ret
      exact ⟨ret_bool (by first | rfl | simp), hB5⟩
set_option maxHeartbeats 8000000 in
theorem goes_first (S : Nat → Nat) (t : Int) (w : World) (hS : Sets S) (hT : Tab w) (hBr : Bruijn w) (hC : cronB S = true) (t0 : t < 0) (tm : -1 ≤ t) :
    Calls Tryd.prog 7 #[cronV S, .int .i64 t] w fun e w' => e = .returned (.bool true) ∧ Below w.heap.size w w' := by
  obtain ⟨v, ok, hN⟩ := nextIs_ex S t
  have hv0 : ok = false → v = 0 := fun h => by rcases hN with ⟨h', _⟩ | ⟨_, h', _⟩ <;> simp_all
  have HS := Lib.hid hS
  have HC := Lib.hid hC
  have HE := Lib.hid (cronE_yes hC)
  have HTB := Lib.hid hT
  have HBJ := Lib.hid hBr
  have HN := Lib.hid hN
  have t1 : t ≤ 5258964959 := by omega
  have HT2 := Lib.hid (show t < 0 ∨ 5258964959 < t from by omega)
  clear hS hC hT hBr hN
  unfold cronV
  cases ok with
  | false =>
    obtain rfl := hv0 rfl
    clear hv0
    go_enter Tryd.func7, Tryd.ntmps7
    go_wp2_with (first
      | (go_at_call 37; refine Calls.mono (match_out S t _ HS.out HC.out HT2.out) ?_; rintro e w1 ⟨rfl, hb1⟩; have hk1 : w.heap.size < w1.heap.size := (by have := hb1.size; simp at this; omega); have hB1 : Below w.heap.size w w1 := Below.trans (by go_grown) (hb1.mono (by simp)); have HK1 := Lib.hid ((CronAt.new S w 58).below hb1 (by simp)); obtain ⟨-, c10, c11, c12, c13, c14⟩ := HK1.out)
      | (go_at_call 38; refine Calls.mono (next_in S t (t + 1) 0 false _ HS.out (tab_on HTB.out hB1) (bruijn_on HBJ.out hB1) HC.out tm t1 rfl HN.out) ?_; rintro e w2 ⟨rfl, hb2⟩; have hk2 : w.heap.size < w2.heap.size := Nat.lt_of_lt_of_le hk1 hb2.size; have hB2 : Below w.heap.size w w2 := hB1.trans (hb2.mono hB1.size); have HK2 := Lib.hid (HK1.out.below hb2 hk1); obtain ⟨-, c20, c21, c22, c23, c24⟩ := HK2.out)
      | (go_at_call 39; refine Calls.mono (cronFault_any S _ HS.out) ?_; rintro e w3 ⟨rfl, hb3⟩; rw [HE.out]; have hk3 : w.heap.size < w3.heap.size := Nat.lt_of_lt_of_le hk2 hb3.size; have hB3 : Below w.heap.size w w3 := hB2.trans (hb3.mono hB2.size); have HK3 := Lib.hid (HK2.out.below hb3 hk2); obtain ⟨-, c30, c31, c32, c33, c34⟩ := HK3.out)
      | (go_at_call 41; refine Calls.mono (cronNext_any S t 0 false _ HS.out HC.out tm t1 HN.out) ?_; rintro e w4 ⟨rfl, hb4⟩; have hk4 : w.heap.size < w4.heap.size := Nat.lt_of_lt_of_le hk3 hb4.size; have hB4 : Below w.heap.size w w4 := hB3.trans (hb4.mono hB3.size); have HK4 := Lib.hid (HK3.out.below hb4 hk3); obtain ⟨-, c40, c41, c42, c43, c44⟩ := HK4.out))
    all_goals
      go_ret
      exact ⟨ret_bool (by first | rfl | simp), hB4⟩
  | true =>
    clear hv0
    go_enter Tryd.func7, Tryd.ntmps7
    go_wp2_with (first
      | (go_at_call 37; refine Calls.mono (match_out S t _ HS.out HC.out HT2.out) ?_; rintro e w1 ⟨rfl, hb1⟩; have hk1 : w.heap.size < w1.heap.size := (by have := hb1.size; simp at this; omega); have hB1 : Below w.heap.size w w1 := Below.trans (by go_grown) (hb1.mono (by simp)); have HK1 := Lib.hid ((CronAt.new S w 58).below hb1 (by simp)); obtain ⟨-, c10, c11, c12, c13, c14⟩ := HK1.out)
      | (go_at_call 38; refine Calls.mono (next_in S t (t + 1) v true _ HS.out (tab_on HTB.out hB1) (bruijn_on HBJ.out hB1) HC.out tm t1 rfl HN.out) ?_; rintro e w2 ⟨rfl, hb2⟩; have hk2 : w.heap.size < w2.heap.size := Nat.lt_of_lt_of_le hk1 hb2.size; have hB2 : Below w.heap.size w w2 := hB1.trans (hb2.mono hB1.size); have HK2 := Lib.hid (HK1.out.below hb2 hk1); obtain ⟨-, c20, c21, c22, c23, c24⟩ := HK2.out)
      | (go_at_call 39; refine Calls.mono (cronFault_any S _ HS.out) ?_; rintro e w3 ⟨rfl, hb3⟩; rw [HE.out]; have hk3 : w.heap.size < w3.heap.size := Nat.lt_of_lt_of_le hk2 hb3.size; have hB3 : Below w.heap.size w w3 := hB2.trans (hb3.mono hB2.size); have HK3 := Lib.hid (HK2.out.below hb3 hk2); obtain ⟨-, c30, c31, c32, c33, c34⟩ := HK3.out)
      | (go_at_call 41; refine Calls.mono (cronNext_any S t v true _ HS.out HC.out tm t1 HN.out) ?_; rintro e w4 ⟨rfl, hb4⟩; have hk4 : w.heap.size < w4.heap.size := Nat.lt_of_lt_of_le hk3 hb4.size; have hB4 : Below w.heap.size w w4 := hB3.trans (hb4.mono hB3.size); have HK4 := Lib.hid (HK3.out.below hb4 hk3); obtain ⟨-, c40, c41, c42, c43, c44⟩ := HK4.out))
    all_goals
      go_ret
      exact ⟨ret_bool (by first | rfl | simp), hB4⟩
theorem goes_any (S : Nat → Nat) (t : Int) (w : World) (hS : Sets S) (hT : Tab w) (hBr : Bruijn w) :
    Calls Tryd.prog 7 #[cronV S, .int .i64 t] w fun e w' => e = .returned (.bool true) ∧ Below w.heap.size w w' := by
  cases hC : cronB S with
  | false => exact goes_bad S t w hS hC
  | true =>
    by_cases h1 : t < -1 ∨ 5258964959 < t
    · exact goes_out S t w hS hC h1
    · by_cases h2 : t < 0
      · exact goes_first S t w hS hT hBr hC h2 (by omega)
      · exact goes_in S t w hS hT hBr hC (by omega) (by omega)
end Go.Proofs.YtdbipmidjdhjpaaDoor
