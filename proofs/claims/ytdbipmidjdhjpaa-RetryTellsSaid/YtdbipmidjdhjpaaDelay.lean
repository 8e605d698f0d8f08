/- RetryTells: contracts of Delay, Wait, All and of the document's DelayOf. -/
import Derived.Test.YtdbipmidjdhjpaaPolicy
namespace Go.Proofs.Ytdbipmidjdhjpaa
open Go.ChangeShapes Go.WideShapes Go.ChangeAt Go.RowKit
set_option linter.unusedVariables false

theorem delay_bad (f t m k n : Int) (w : World) (hb : pbad f t m k = true) :
    Calls Try.prog 22 #[.agg #[.int .i64 f, .int .i64 t, .int .i64 m, .int .i64 k], .int .i64 n] w fun e w' => e = .returned (.tuple #[.int .i64 0, .int .i64 4]) ∧ Below w.heap.size w w' := by
  have HB := Lib.hid hb
  clear hb
  go_enter Try.func22, Try.ntmps22
  go_wp2_with (go_at_call 26; refine (pcheck_bad _ _ _ _ _ HB.out).mono ?_; rintro e w1 ⟨rfl, hb1⟩; have hB1 : Below w.heap.size w w1 := ((Below.refl _ _).alloc (Nat.le_refl _) _).trans (hb1.mono (by simp)))
  go_ret2
  exact ⟨rfl, by go_grown⟩
theorem delay_none (f t m k n : Int) (w : World) (hb : pbad f t m k = false) (hn : n < 1 ∨ k < n) :
    Calls Try.prog 22 #[.agg #[.int .i64 f, .int .i64 t, .int .i64 m, .int .i64 k], .int .i64 n] w fun e w' => e = .returned (.tuple #[.int .i64 0, .int .i64 5]) ∧ Below w.heap.size w w' := by
  have HB := Lib.hid hb
  clear hb
  rcases hn with hn | hn
  all_goals
    go_enter Try.func22, Try.ntmps22
    go_wp2_with (go_at_call 26; refine (pcheck_good _ _ _ _ _ HB.out).mono ?_; rintro e w1 ⟨rfl, hb1⟩; obtain ⟨hc1, hz1⟩ := bcell hb1; have hB1 : Below w.heap.size w w1 := ((Below.refl _ _).alloc (Nat.le_refl _) _).trans (hb1.mono (by simp)))
    all_goals
      go_ret2
      exact ⟨rfl, by go_grown⟩
/-- the delay ahead of try n -/
def delayAt (f t m n : Int) : Int := delayN f t m (n - 1).toNat
theorem delayAt_eq {f t m n : Int} {j : Nat} (h : n - 1 = j) : delayN f t m j = delayAt f t m n := by
  unfold delayAt
  rw [show (n - 1).toNat = j from by omega]
theorem delayAt_bd {f t m k : Int} (hb : pbad f t m k = false) (n : Int) : 1 ≤ delayAt f t m n ∧ delayAt f t m n ≤ 1000000000 := delayN_bd hb _
theorem mixV_bd (s n : Int) : 0 ≤ mixV s n ∧ mixV s n ≤ 18446744073709551615 := ⟨bits_lo_u64 _ _ _, bits_hi_u64 _ _ _⟩
set_option maxHeartbeats 1000000 in
theorem delay_good (f t m k n : Int) (w : World) (hb : pbad f t m k = false) (h1 : 1 ≤ n) (h2 : n ≤ k) :
    Calls Try.prog 22 #[.agg #[.int .i64 f, .int .i64 t, .int .i64 m, .int .i64 k], .int .i64 n] w fun e w' => e = .returned (.tuple #[.int .i64 (delayAt f t m n), .int .i64 0]) ∧ Below w.heap.size w w' := by
  obtain ⟨b1, b2, b3, b4, b5, b6, b7, b8⟩ := pbad_no hb
  have HB := Lib.hid hb
  clear hb
  go_enter Try.func22, Try.ntmps22
  go_wp2_with (go_at_call 26; refine (pcheck_good _ _ _ _ _ HB.out).mono ?_; rintro e w1 ⟨rfl, hb1⟩; obtain ⟨hc1, hz1⟩ := bcell hb1; have hB1 : Below w.heap.size w w1 := ((Below.refl _ _).alloc (Nat.le_refl _) _).trans (hb1.mono (by simp)))
  go_loop [7, 25] (fun d i => ∃ j : Nat, (j : Int) ≤ n - 1 ∧ i = .int .i64 j ∧ d = .int .i64 (delayN f t m j)) (fun _ i => (n - intOf i).toNat)
  case atStart => exact ⟨0, by omega, rfl, rfl⟩
  case round =>
    obtain ⟨j, hj, rfl, rfl⟩ := hrel
    obtain ⟨d1, d2⟩ := delayN_bd HB.out j
    obtain ⟨d3, d4⟩ := delayN_mul HB.out j
    by_cases hlt : (j : Int) < n - 1
    · go_wp2
      go_round
      case rel => exact ⟨j + 1, by omega, by go_num, rfl⟩
      case measure => simp [intOf]; omega
    · go_wp2
      go_ret2
      exact ⟨ret_ii (delayAt_eq (by omega)) rfl, by go_grown⟩

set_option maxHeartbeats 1000000 in
theorem wait_bad (f t m k n s : Int) (w : World) (hb : pbad f t m k = true) :
    Calls Try.prog 23 #[.agg #[.int .i64 f, .int .i64 t, .int .i64 m, .int .i64 k], .int .i64 n, .int .u64 s] w fun e w' => e = .returned (.tuple #[.int .i64 0, .int .i64 4]) ∧ Below w.heap.size w w' := by
  have HB := Lib.hid hb
  clear hb
  go_enter Try.func23, Try.ntmps23
  go_wp2_with (go_at_call 22; refine (delay_bad _ _ _ _ _ _ HB.out).mono ?_; rintro e w1 ⟨rfl, hb1⟩; have hB1 : Below w.heap.size w w1 := ((Below.refl _ _).alloc (Nat.le_refl _) _).trans (hb1.mono (by simp)))
  go_ret2
  exact ⟨rfl, by go_grown⟩
theorem wait_none (f t m k n s : Int) (w : World) (hb : pbad f t m k = false) (hn : n < 1 ∨ k < n) :
    Calls Try.prog 23 #[.agg #[.int .i64 f, .int .i64 t, .int .i64 m, .int .i64 k], .int .i64 n, .int .u64 s] w fun e w' => e = .returned (.tuple #[.int .i64 0, .int .i64 5]) ∧ Below w.heap.size w w' := by
  have HB := Lib.hid hb
  have HN := Lib.hid hn
  clear hb hn
  go_enter Try.func23, Try.ntmps23
  go_wp2_with (go_at_call 22; refine (delay_none _ _ _ _ _ _ HB.out HN.out).mono ?_; rintro e w1 ⟨rfl, hb1⟩; have hB1 : Below w.heap.size w w1 := ((Below.refl _ _).alloc (Nat.le_refl _) _).trans (hb1.mono (by simp)))
  go_ret2
  exact ⟨rfl, by go_grown⟩
theorem wait_eq (d x : Int) (h1 : 1 ≤ d) (h2 : d ≤ 1000000000) : wrap64 (d / 2 + wrap64 (x % (d - d / 2 + 1))) = d / 2 + x % (d - d / 2 + 1) := by
  have a := Int.emod_nonneg x (b := d - d / 2 + 1) (by omega)
  have b := Int.emod_lt_of_pos x (b := d - d / 2 + 1) (by omega)
  rw [IntWalk.wrap64_in (x % (d - d / 2 + 1)) ⟨by omega, by omega⟩, IntWalk.wrap64_in _ ⟨by omega, by omega⟩]
def waitV (f t m n s : Int) : Int := delayAt f t m n / 2 + mixV s n % (delayAt f t m n - delayAt f t m n / 2 + 1)
set_option maxHeartbeats 1000000 in
theorem wait_good (f t m k n s : Int) (w : World) (hb : pbad f t m k = false) (h1 : 1 ≤ n) (h2 : n ≤ k) (s1 : 0 ≤ s) (s2 : s ≤ 18446744073709551615) :
    Calls Try.prog 23 #[.agg #[.int .i64 f, .int .i64 t, .int .i64 m, .int .i64 k], .int .i64 n, .int .u64 s] w fun e w' => e = .returned (.tuple #[.int .i64 (waitV f t m n s), .int .i64 0]) ∧ Below w.heap.size w w' := by
  obtain ⟨d1, d2⟩ := delayAt_bd hb n
  obtain ⟨x1, x2⟩ := mixV_bd s n
  have HB := Lib.hid hb
  clear hb
  go_enter Try.func23, Try.ntmps23
  go_wp2_with (first
    | (go_at_call 22; refine (delay_good _ _ _ _ _ _ HB.out h1 h2).mono ?_; rintro e w1 ⟨rfl, hb1⟩; have hB1 : Below w.heap.size w w1 := ((Below.refl _ _).alloc (Nat.le_refl _) _).trans (hb1.mono (by simp)))
    | (go_at_call 59; refine (mix_any _ _ _ s1 s2).mono ?_; rintro e w2 ⟨rfl, rfl⟩))
  go_ret2
  exact ⟨ret_ii (wait_eq _ _ d1 d2) rfl, by go_grown⟩

theorem all_bad (f t m k : Int) (w : World) (hb : pbad f t m k = true) :
    Calls Try.prog 24 #[.agg #[.int .i64 f, .int .i64 t, .int .i64 m, .int .i64 k]] w fun e w' => e = .returned (.tuple #[.int .i64 0, .int .i64 4]) ∧ Below w.heap.size w w' := by
  have HB := Lib.hid hb
  clear hb
  go_enter Try.func24, Try.ntmps24
  go_wp2_with (go_at_call 26; refine (pcheck_bad _ _ _ _ _ HB.out).mono ?_; rintro e w1 ⟨rfl, hb1⟩; have hB1 : Below w.heap.size w w1 := ((Below.refl _ _).alloc (Nat.le_refl _) _).trans (hb1.mono (by simp)))
  go_ret2
  exact ⟨rfl, by go_grown⟩
set_option maxHeartbeats 1000000 in
theorem all_good (f t m k : Int) (w : World) (hb : pbad f t m k = false) :
    Calls Try.prog 24 #[.agg #[.int .i64 f, .int .i64 t, .int .i64 m, .int .i64 k]] w fun e w' => e = .returned (.tuple #[.int .i64 (delaySum f t m k.toNat), .int .i64 0]) ∧ Below w.heap.size w w' := by
  obtain ⟨b1, b2, b3, b4, b5, b6, b7, b8⟩ := pbad_no hb
  have HB := Lib.hid hb
  clear hb
  go_enter Try.func24, Try.ntmps24
  go_wp2_with (go_at_call 26; refine (pcheck_good _ _ _ _ _ HB.out).mono ?_; rintro e w1 ⟨rfl, hb1⟩; obtain ⟨hc1, hz1⟩ := bcell hb1; have hs1 : w.heap.size < w1.heap.size := (by have := hb1.size; simp at this; omega); have hB1 : Below w.heap.size w w1 := ((Below.refl _ _).alloc (Nat.le_refl _) _).trans (hb1.mono (by simp)))
  go_loopw [5, 16] (fun d i wr => ∃ j : Nat, (j : Int) ≤ k ∧ i = .int .i64 j ∧ d = .int .i64 (delaySum f t m j) ∧ Below w.heap.size w wr ∧ w.heap.size < wr.heap.size ∧ (∀ i, wr.cell? ⟨w.heap.size, i, none⟩ = (#[Value.int .i64 f, .int .i64 t, .int .i64 m, .int .i64 k] : Array Value)[i]?)) (fun _ i _ => (k - intOf i).toNat)
  case atStart => exact ⟨0, by omega, rfl, rfl, hB1, hs1, fun i => by rw [hc1 _ _ (by simp)]; simp [go_sem]⟩
  case round =>
    obtain ⟨j, hj, rfl, rfl, hB, hs, hcell⟩ := hrel
    obtain ⟨s1, s2⟩ := delaySum_bd HB.out j
    obtain ⟨d1, d2⟩ := delayAt_bd HB.out (j + 1)
    by_cases hlt : (j : Int) < k
    · go_wp2_with (go_at_call 22; refine (delay_good _ _ _ _ _ _ HB.out (by omega) (by omega)).mono ?_; rintro e w2 ⟨rfl, hb2⟩; have hB2 : Below w.heap.size w w2 := hB.trans (hb2.mono (by omega)))
      go_roundw
      case rel => exact ⟨j + 1, by omega, by go_num, by rw [delaySum, delayAt_eq (n := (j : Int) + 1) (by omega)], hB2, by have := hb2.size; omega, fun i => by rw [hb2.cell (p := ⟨w.heap.size, i, none⟩) hs]; exact hcell i⟩
      case measure => simp [intOf]; omega
    · go_wp2
      go_ret2
      exact ⟨ret_ii (by rw [show k.toNat = j from by omega]) rfl, by go_grown⟩
end Go.Proofs.Ytdbipmidjdhjpaa
