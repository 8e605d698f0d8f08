/- Contracts: does a time match a cron? The program's and the document's. -/
import Derived.Test.YtdbipmidjdhjpaaDoorCronIn
namespace Go.Proofs.YtdbipmidjdhjpaaDoor
open Go.ChangeShapes Go.WideShapes Go.ChangeAt Go.RowKit Civ
set_option linter.unusedVariables false
set_option linter.unusedSimpArgs false
/-- a cron, as it lies -/
def CronAt (k : Nat) (S : Nat → Nat) (W : World) : Prop := k < W.heap.size ∧ W.cell? ⟨k, 0, none⟩ = some (.int .u64 (S 0 : Nat)) ∧ W.cell? ⟨k, 1, none⟩ = some (.int .u64 (S 1 : Nat)) ∧ W.cell? ⟨k, 2, none⟩ = some (.int .u64 (S 2 : Nat)) ∧ W.cell? ⟨k, 3, none⟩ = some (.int .u64 (S 3 : Nat)) ∧ W.cell? ⟨k, 4, none⟩ = some (.int .u64 (S 4 : Nat))
theorem CronAt.below {k : Nat} {S : Nat → Nat} {W W' : World} (h : CronAt k S W) {B : Nat} (hb : Below B W W') (hk : k < B) : CronAt k S W' := by
  obtain ⟨h0, h1, h2, h3, h4, h5⟩ := h
  have hs := hb.size
  have hc : ∀ o, W'.cell? ⟨k, o, none⟩ = W.cell? ⟨k, o, none⟩ := fun o => hb.cell (p := ⟨k, o, none⟩) hk
  exact ⟨by omega, (hc _).trans h1, (hc _).trans h2, (hc _).trans h3, (hc _).trans h4, (hc _).trans h5⟩
theorem CronAt.new (S : Nat → Nat) (w : World) (t : TypeId) : CronAt w.heap.size S (w.alloc (.cells #[.int .u64 (S 0 : Nat), .int .u64 (S 1 : Nat), .int .u64 (S 2 : Nat), .int .u64 (S 3 : Nat), .int .u64 (S 4 : Nat)] t)) := ⟨by simp, by simp [go_sem], by simp [go_sem], by simp [go_sem], by simp [go_sem], by simp [go_sem]⟩
theorem bool_of (P : Prop) : ∃ v : Bool, v = true ↔ P := by
  by_cases h : P
  · exact ⟨true, by simp [h]⟩
  · exact ⟨false, by simp [h]⟩
theorem hit_no0 {S : Nat → Nat} {t : Int} (h : bit (S 0) (t % 60).toNat = false) : ¬ Hit S t := by rintro ⟨⟨h1, _⟩, _⟩; rw [h] at h1; cases h1
theorem hit_no1 {S : Nat → Nat} {t : Int} (h : bit (S 1) (t % 1440 / 60).toNat = false) : ¬ Hit S t := by rintro ⟨⟨_, h1⟩, _⟩; rw [h] at h1; cases h1
theorem eq_false_of {v : Bool} {P : Prop} (hv : v = true ↔ P) (h : ¬ P) : false = v := by
  cases v
  · rfl
  · exact absurd (hv.1 rfl) h
theorem hit_fit {S : Nat → Nat} {t : Int} {v : Bool} (hv : v = true ↔ Hit S t) (h0 : bit (S 0) (t % 60).toNat = true) (h1 : bit (S 1) (t % 1440 / 60).toNat = true) : v = true ↔ Fit S (t / 1440) := by
  rw [hv]
  exact ⟨fun h => h.2, fun h => ⟨⟨h0, h1⟩, h⟩⟩
set_option maxHeartbeats 4000000 in
theorem cronMatch_any (S : Nat → Nat) (t : Int) (v : Bool) (w : World) (hS : Sets S) (hC : cronB S = true) (t0 : 0 ≤ t) (t1 : t ≤ 5258964959) (hv : v = true ↔ Hit S t) :
    Calls Tryd.prog 40 #[cronV S, .int .i64 t] w fun e w' => e = .returned (.bool v) ∧ Below w.heap.size w w' := by
  have s0 := hS 0
  have s1 := hS 1
  have HS := Lib.hid hS
  have HC := Lib.hid hC
  have HV := Lib.hid hv
  have q0 : 0 ≤ t % 60 := by omega
  have q1 : t % 60 < 60 := by omega
  have q2 : 0 ≤ t % 1440 / 60 := by omega
  have q3 : t % 1440 / 60 < 24 := by omega
  have q4 : 0 ≤ t / 1440 := by omega
  have q5 : t / 1440 ≤ 3652058 := by omega
  have HCV := Lib.hid (show cronV S = .agg #[.int .u64 (S 0 : Nat), .int .u64 (S 1 : Nat), .int .u64 (S 2 : Nat), .int .u64 (S 3 : Nat), .int .u64 (S 4 : Nat)] from rfl)
  clear hS hC hv
  unfold cronV
  cases h0 : bit (S 0) (t % 60).toNat with
  | false =>
    have H0 := Lib.hid h0
    have HR := Lib.hid (eq_false_of HV.out (hit_no0 h0))
    clear h0
    go_enter Tryd.func40, Tryd.ntmps40
    go_wp2_with (go_at_call 57; refine Calls.mono (in_bit (S 0) (t % 60) _ s0 (by omega) (by omega)) ?_; rintro e w1 ⟨rfl, rfl⟩; rw [H0.out])
    go_ret
    exact ⟨ret_bool HR.out, by go_grown⟩
  | true =>
    have H0 := Lib.hid h0
    clear h0
    cases h1 : bit (S 1) (t % 1440 / 60).toNat with
    | false =>
      have H1 := Lib.hid h1
      have HR := Lib.hid (eq_false_of HV.out (hit_no1 h1))
      clear h1
      go_enter Tryd.func40, Tryd.ntmps40
      go_wp2_with (first
        | (go_at_call_of 57 (S 0); refine Calls.mono (in_bit (S 0) (t % 60) _ s0 (by omega) (by omega)) ?_; rintro e w1 ⟨rfl, rfl⟩; rw [H0.out])
        | (go_at_call_of 57 (S 1); refine Calls.mono (in_bit (S 1) (t % 1440 / 60) _ s1 (by omega) (by omega)) ?_; rintro e w1 ⟨rfl, rfl⟩; rw [H1.out]))
      go_ret
      exact ⟨ret_bool HR.out, by go_grown⟩
    | true =>
      have H1 := Lib.hid h1
      have HR := Lib.hid (hit_fit HV.out H0.out h1)
      clear h1
      go_enter Tryd.func40, Tryd.ntmps40
      go_wp2_with (first
        | (go_at_call_of 57 (S 0); refine Calls.mono (in_bit (S 0) (t % 60) _ s0 (by omega) (by omega)) ?_; rintro e w1 ⟨rfl, rfl⟩; rw [H0.out])
        | (go_at_call_of 57 (S 1); refine Calls.mono (in_bit (S 1) (t % 1440 / 60) _ s1 (by omega) (by omega)) ?_; rintro e w1 ⟨rfl, rfl⟩; rw [H1.out])
        | (go_at_call 58; refine Calls.mono (fits_bool S (t / 1440) v _ HS.out HC.out q4 q5 HR.out) ?_; rintro e w1 ⟨rfl, hb1⟩; have hB1 : Below w.heap.size w w1 := Below.trans (by go_grown) (hb1.mono (by simp))))
      go_ret
      exact ⟨ret_bool (by first | rfl | simp), hB1⟩
/-- what the program answers of a match -/
def matchE (S : Nat → Nat) (t : Int) : Int := if cronB S then (if 0 ≤ t ∧ t ≤ 5258964959 then 0 else 4) else 3
end Go.Proofs.YtdbipmidjdhjpaaDoor
