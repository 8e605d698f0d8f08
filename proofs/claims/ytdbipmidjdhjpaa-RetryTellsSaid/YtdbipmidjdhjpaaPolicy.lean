/- RetryTells: contracts of Check, Delay, Wait and All, and of the document's PolicyFault and DelayOf. -/
import Derived.Test.YtdbipmidjdhjpaaMix
namespace Go.Proofs.Ytdbipmidjdhjpaa
open Go.ChangeShapes Go.WideShapes Go.ChangeAt Go.RowKit
set_option linter.unusedVariables false

def pbad (f t m k : Int) : Bool := decide (f < 1 ∨ f > 1000000000 ∨ t < 1 ∨ t > 10 ∨ m < f ∨ m > 1000000000 ∨ k < 0 ∨ k > 50)
theorem pbad_no {f t m k : Int} (hb : pbad f t m k = false) : 1 ≤ f ∧ f ≤ 1000000000 ∧ 1 ≤ t ∧ t ≤ 10 ∧ f ≤ m ∧ m ≤ 1000000000 ∧ 0 ≤ k ∧ k ≤ 50 := by
  unfold pbad at hb; simp at hb; omega
theorem pbad_yes {f t m k : Int} (hb : pbad f t m k = true) : f < 1 ∨ f > 1000000000 ∨ t < 1 ∨ t > 10 ∨ m < f ∨ m > 1000000000 ∨ k < 0 ∨ k > 50 := by
  unfold pbad at hb; simpa using hb
/-- the delay ahead of try j + 1 -/
def delayN (f t m : Int) : Nat → Int
  | 0 => f
  | j + 1 => min (delayN f t m j * t) m
theorem delayN_bd {f t m k : Int} (hb : pbad f t m k = false) (j : Nat) : 1 ≤ delayN f t m j ∧ delayN f t m j ≤ 1000000000 := by
  have := pbad_no hb
  induction j with
  | zero => simp only [delayN]; omega
  | succ j ih =>
    simp only [delayN]
    have := Int.mul_le_mul (a := 1) (c := delayN f t m j) (b := 1) (d := t) (by omega) (by omega) (by omega) (by omega)
    omega
theorem delayN_mul {f t m k : Int} (hb : pbad f t m k = false) (j : Nat) : 1 ≤ delayN f t m j * t ∧ delayN f t m j * t ≤ 10000000000 := by
  have := pbad_no hb
  have := delayN_bd hb j
  have h1 := Int.mul_le_mul (a := 1) (c := delayN f t m j) (b := 1) (d := t) (by omega) (by omega) (by omega) (by omega)
  have h2 := Int.mul_le_mul (a := delayN f t m j) (c := 1000000000) (b := t) (d := 10) (by omega) (by omega) (by omega) (by omega)
  omega
/-- all delays of the first j tries -/
def delaySum (f t m : Int) : Nat → Int
  | 0 => 0
  | j + 1 => delaySum f t m j + delayN f t m j
theorem delaySum_bd {f t m k : Int} (hb : pbad f t m k = false) (j : Nat) : 0 ≤ delaySum f t m j ∧ delaySum f t m j ≤ 1000000000 * j := by
  induction j with
  | zero => simp only [delaySum]; omega
  | succ j ih =>
    have := delayN_bd hb j
    simp only [delaySum]
    omega

def pfault (f t m k : Int) : Int := if pbad f t m k then 4 else 0

theorem pcheck_bad (f t m k : Int) (w : World) (hb : pbad f t m k = true) :
    Calls Try.prog 26 #[.agg #[.int .i64 f, .int .i64 t, .int .i64 m, .int .i64 k]] w fun e w' => e = .returned (.int .i64 4) ∧ Below w.heap.size w w' := by
  have H := Lib.hid (pbad_yes hb)
  clear hb
  go_enter Try.func26, Try.ntmps26
  go_wp2
  all_goals first | (exfalso; have := H.out; omega) | skip
  all_goals
    go_ret
    exact ⟨rfl, by go_grown⟩
theorem pcheck_good (f t m k : Int) (w : World) (hb : pbad f t m k = false) :
    Calls Try.prog 26 #[.agg #[.int .i64 f, .int .i64 t, .int .i64 m, .int .i64 k]] w fun e w' => e = .returned (.int .i64 0) ∧ Below w.heap.size w w' := by
  obtain ⟨b1, b2, b3, b4, b5, b6, b7, b8⟩ := pbad_no hb
  clear hb
  go_enter Try.func26, Try.ntmps26
  go_wp2
  go_ret
  exact ⟨rfl, by go_grown⟩
theorem pfault_bad (f t m k : Int) (w : World) (hb : pbad f t m k = true) :
    Calls Try.prog 25 #[.agg #[.int .i64 f, .int .i64 t, .int .i64 m, .int .i64 k]] w fun e w' => e = .returned (.int .i64 4) ∧ Below w.heap.size w w' := by
  have H := Lib.hid (pbad_yes hb)
  clear hb
  go_enter Try.func25, Try.ntmps25
  go_wp2
  all_goals first | (exfalso; have := H.out; omega) | skip
  all_goals
    go_ret
    exact ⟨rfl, by go_grown⟩
theorem pfault_good (f t m k : Int) (w : World) (hb : pbad f t m k = false) :
    Calls Try.prog 25 #[.agg #[.int .i64 f, .int .i64 t, .int .i64 m, .int .i64 k]] w fun e w' => e = .returned (.int .i64 0) ∧ Below w.heap.size w w' := by
  obtain ⟨b1, b2, b3, b4, b5, b6, b7, b8⟩ := pbad_no hb
  clear hb
  go_enter Try.func25, Try.ntmps25
  go_wp2
  go_ret
  exact ⟨rfl, by go_grown⟩
end Go.Proofs.Ytdbipmidjdhjpaa
