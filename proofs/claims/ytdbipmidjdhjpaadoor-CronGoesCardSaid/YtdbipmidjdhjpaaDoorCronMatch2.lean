/- Contract: does a time match a cron? The program's. -/
import Derived.Test.YtdbipmidjdhjpaaDoorCronMatch
namespace Go.Proofs.YtdbipmidjdhjpaaDoor
open Go.ChangeShapes Go.WideShapes Go.ChangeAt Go.RowKit Civ
set_option linter.unusedVariables false
set_option linter.unusedSimpArgs false
theorem cronE_yes {S : Nat → Nat} (h : cronB S = true) : cronE S = 0 := by simp [cronE, h]
theorem cronE_no {S : Nat → Nat} (h : cronB S = false) : cronE S = 3 := by simp [cronE, h]
theorem match_bad (S : Nat → Nat) (t : Int) (w : World) (hS : Sets S) (hC : cronB S = false) :
    Calls Tryd.prog 37 #[cronV S, .int .i64 t] w fun e w' => e = .returned (.tuple #[.bool false, .int .i64 3]) ∧ Below w.heap.size w w' := by
  have HS := Lib.hid hS
  have HE := Lib.hid (cronE_no hC)
  clear hS hC
  unfold cronV
  go_enter Tryd.func37, Tryd.ntmps37
  go_wp2_with (go_at_call 52; refine Calls.mono (cCheck_any S _ HS.out) ?_; rintro e w1 ⟨rfl, hb1⟩; rw [HE.out]; have hB1 : Below w.heap.size w w1 := Below.trans (by go_grown) (hb1.mono (by simp)))
  go_ret2
  exact ⟨ret_bi rfl rfl, hB1⟩
theorem match_out (S : Nat → Nat) (t : Int) (w : World) (hS : Sets S) (hC : cronB S = true) (ht : t < 0 ∨ 5258964959 < t) :
    Calls Tryd.prog 37 #[cronV S, .int .i64 t] w fun e w' => e = .returned (.tuple #[.bool false, .int .i64 4]) ∧ Below w.heap.size w w' := by
  have HS := Lib.hid hS
  have HE := Lib.hid (cronE_yes hC)
  clear hS hC
  unfold cronV
  rcases ht with ht | ht
  all_goals
    go_enter Tryd.func37, Tryd.ntmps37
    go_wp2_with (go_at_call 52; refine Calls.mono (cCheck_any S _ HS.out) ?_; rintro e w1 ⟨rfl, hb1⟩; rw [HE.out]; have hB1 : Below w.heap.size w w1 := Below.trans (by go_grown) (hb1.mono (by simp)))
    all_goals
      go_ret2
      exact ⟨ret_bi rfl rfl, hB1⟩
set_option maxHeartbeats 4000000 in
theorem match_in (S : Nat → Nat) (t : Int) (v : Bool) (w : World) (hS : Sets S) (hT : Tab w) (hC : cronB S = true) (t0 : 0 ≤ t) (t1 : t ≤ 5258964959) (hv : v = true ↔ Hit S t) :
    Calls Tryd.prog 37 #[cronV S, .int .i64 t] w fun e w' => e = .returned (.tuple #[.bool v, .int .i64 0]) ∧ Below w.heap.size w w' := by
  have s0 := hS 0
  have s1 := hS 1
  have HS := Lib.hid hS
  have HE := Lib.hid (cronE_yes hC)
  have HT := Lib.hid hT
  have HV := Lib.hid hv
  have q0 : 0 ≤ t % 60 := by omega
  have q1 : t % 60 < 60 := by omega
  have q2 : 0 ≤ t / 60 % 24 := by omega
  have q3 : t / 60 % 24 < 24 := by omega
  have q4 : 0 ≤ t / 1440 := by omega
  have q5 : t / 1440 ≤ 3652058 := by omega
  have q6 : t % 1440 / 60 = t / 60 % 24 := by omega
  have H0' := Lib.hid (@hit_no0 S t)
  have H1' := Lib.hid (@hit_no1 S t)
  have HF' := Lib.hid (fun a b => hit_fit (S := S) (t := t) HV.out a b)
  rw [q6] at H1' HF'
  clear hS hC hT hv q6
  unfold cronV
  cases h0 : bit (S 0) (t % 60).toNat with
  | false =>
    have H0 := Lib.hid h0
    have HR := Lib.hid (eq_false_of HV.out (H0'.out h0))
    clear h0
    go_enter Tryd.func37, Tryd.ntmps37
    go_wp2_with (first
      | (go_at_call 52; refine Calls.mono (cCheck_any S _ HS.out) ?_; rintro e w1 ⟨rfl, hb1⟩; rw [HE.out]; have hB1 : Below w.heap.size w w1 := Below.trans (by go_grown) (hb1.mono (by simp)); obtain ⟨hk, c0, c1, c2, c3, c4⟩ := (CronAt.new S w 58).below hb1 (by simp))
      | (go_at_call 53; refine Calls.mono (has_any (S 0) (t % 60) _ s0 (by omega) (by omega)) ?_; rintro e w2 ⟨rfl, rfl⟩; rw [H0.out]))
    go_ret2
    exact ⟨ret_bi HR.out rfl, hB1⟩
  | true =>
    have H0 := Lib.hid h0
    clear h0
    cases h1 : bit (S 1) (t / 60 % 24).toNat with
    | false =>
      have H1 := Lib.hid h1
      have HR := Lib.hid (eq_false_of HV.out (H1'.out h1))
      clear h1
      go_enter Tryd.func37, Tryd.ntmps37
      go_wp2_with (first
        | (go_at_call 52; refine Calls.mono (cCheck_any S _ HS.out) ?_; rintro e w1 ⟨rfl, hb1⟩; rw [HE.out]; have hB1 : Below w.heap.size w w1 := Below.trans (by go_grown) (hb1.mono (by simp)); obtain ⟨hk, c0, c1, c2, c3, c4⟩ := (CronAt.new S w 58).below hb1 (by simp))
        | (go_at_call_of 53 (S 0); refine Calls.mono (has_any (S 0) (t % 60) _ s0 (by omega) (by omega)) ?_; rintro e w2 ⟨rfl, rfl⟩; rw [H0.out])
        | (go_at_call_of 53 (S 1); refine Calls.mono (has_any (S 1) (t / 60 % 24) _ s1 (by omega) (by omega)) ?_; rintro e w2 ⟨rfl, rfl⟩; rw [H1.out]))
      go_ret2
      exact ⟨ret_bi HR.out rfl, hB1⟩
    | true =>
      have H1 := Lib.hid h1
      have HR := Lib.hid (HF'.out H0.out h1)
      clear h1
      go_enter Tryd.func37, Tryd.ntmps37
      go_wp2_with (first
        | (go_at_call 52; refine Calls.mono (cCheck_any S _ HS.out) ?_; rintro e w1 ⟨rfl, hb1⟩; rw [HE.out]; have hB1 : Below w.heap.size w w1 := Below.trans (by go_grown) (hb1.mono (by simp)); obtain ⟨hk, c0, c1, c2, c3, c4⟩ := (CronAt.new S w 58).below hb1 (by simp))
        | (go_at_call_of 53 (S 0); refine Calls.mono (has_any (S 0) (t % 60) _ s0 (by omega) (by omega)) ?_; rintro e w2 ⟨rfl, rfl⟩; rw [H0.out])
        | (go_at_call_of 53 (S 1); refine Calls.mono (has_any (S 1) (t / 60 % 24) _ s1 (by omega) (by omega)) ?_; rintro e w2 ⟨rfl, rfl⟩; rw [H1.out])
        | (go_at_call 54; refine Calls.mono (day_any S (t / 1440) v _ HS.out (tab_on HT.out hB1) q4 q5 HR.out) ?_; rintro e w2 ⟨rfl, hb2⟩))
      go_ret2
      exact ⟨ret_bi (by first | rfl | simp) rfl, hB1.trans (hb2.mono hB1.size)⟩
end Go.Proofs.YtdbipmidjdhjpaaDoor
