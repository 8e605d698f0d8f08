/- RetryTells: the document's DelayOf, and the law's walk. -/
import Derived.Test.YtdbipmidjdhjpaaDelay
namespace Go.Proofs.Ytdbipmidjdhjpaa
open Go.ChangeShapes Go.WideShapes Go.ChangeAt Go.RowKit
set_option linter.unusedVariables false

theorem delayOf_none (f t m k n : Int) (w : World) (hn : n < 1 ∨ k < n) :
    Calls Try.prog 27 #[.agg #[.int .i64 f, .int .i64 t, .int .i64 m, .int .i64 k], .int .i64 n] w fun e w' => e = .returned (.tuple #[.int .i64 0, .bool false]) ∧ Below w.heap.size w w' := by
  rcases hn with hn | hn
  all_goals
    go_enter Try.func27, Try.ntmps27
    go_wp2_with fail
    all_goals
      go_ret2
      exact ⟨rfl, by go_grown⟩
theorem min_over {a b : Int} (h : b < a) : min a b = b := by omega
theorem min_under {a b : Int} (h : a ≤ b) : min a b = a := by omega
set_option maxHeartbeats 1000000 in
theorem delayOf_j (f t m k : Int) (hb : pbad f t m k = false) (j : Nat) : ∀ (w : World), (j : Int) + 1 ≤ k →
    Calls Try.prog 27 #[.agg #[.int .i64 f, .int .i64 t, .int .i64 m, .int .i64 k], .int .i64 ((j : Int) + 1)] w fun e w' => e = .returned (.tuple #[.int .i64 (delayN f t m j), .bool true]) ∧ Below w.heap.size w w' := by
  obtain ⟨b1, b2, b3, b4, b5, b6, b7, b8⟩ := pbad_no hb
  induction j with
  | zero =>
    intro w hk
    clear hb
    go_enter Try.func27, Try.ntmps27
    go_wp2_with fail
    go_ret2
    exact ⟨rfl, by go_grown⟩
  | succ j ih =>
    intro w hk
    obtain ⟨d3, d4⟩ := delayN_mul hb j
    have IH := Lib.hid ih
    have h1 : (((j + 1 : Nat) : Int) + 1 == 1) = false := by simp; omega
    rw [show (((j + 1 : Nat) : Int) + 1) = (j : Int) + 2 from by omega] at h1 hk ⊢
    clear hb ih
    go_enter Try.func27, Try.ntmps27
    go_wp2_with fail
    rw [show ((j : Int) + 2 - 1) = (j : Int) + 1 from by omega]
    refine (IH.out _ (by omega)).mono ?_
    rintro e w1 ⟨rfl, hb1⟩
    obtain ⟨hc1, hz1⟩ := bcell hb1
    have hB1 : Below w.heap.size w w1 := ((Below.refl _ _).alloc (Nat.le_refl _) _).trans (hb1.mono (by simp))
    go_wp2_with fail
    · have h : m < delayN f t m j * t := by assumption
      go_ret2
      exact ⟨ret_ib (min_over h).symm rfl, by go_grown⟩
    · have h : delayN f t m j * t ≤ m := by assumption
      go_ret2
      exact ⟨ret_ib (min_under h).symm rfl, by go_grown⟩
theorem delayOf_good (f t m k n : Int) (w : World) (hb : pbad f t m k = false) (h1 : 1 ≤ n) (h2 : n ≤ k) :
    Calls Try.prog 27 #[.agg #[.int .i64 f, .int .i64 t, .int .i64 m, .int .i64 k], .int .i64 n] w fun e w' => e = .returned (.tuple #[.int .i64 (delayAt f t m n), .bool true]) ∧ Below w.heap.size w w' := by
  have h := delayOf_j f t m k hb (n - 1).toNat w (by omega)
  rw [show (((n - 1).toNat : Nat) : Int) + 1 = n from by omega] at h
  exact h
end Go.Proofs.Ytdbipmidjdhjpaa
