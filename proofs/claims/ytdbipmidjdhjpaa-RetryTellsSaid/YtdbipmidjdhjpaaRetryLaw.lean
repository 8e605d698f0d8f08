/- RetryTells: the law's own walk: at every policy, number and seed the law returns true. -/
import Derived.Test.YtdbipmidjdhjpaaDelayOf
namespace Go.Proofs.Ytdbipmidjdhjpaa
open Go.ChangeShapes Go.WideShapes Go.ChangeAt Go.RowKit
set_option linter.unusedVariables false

set_option maxHeartbeats 1000000 in
theorem tells_bad (f t m k n s : Int) (w : World) (s1 : 0 ≤ s) (s2 : s ≤ 18446744073709551615) (hb : pbad f t m k = true) :
    Calls Try.prog 6 #[.agg #[.int .i64 f, .int .i64 t, .int .i64 m, .int .i64 k], .int .i64 n, .int .u64 s] w fun e w' => e = .returned (.bool true) ∧ Below w.heap.size w w' := by
  have HB := Lib.hid hb
  clear hb
  go_enter Try.func6, Try.ntmps6
  go_wp2_with (first | (go_at_call 22; refine (delay_bad _ _ _ _ _ _ HB.out).mono ?_; rintro e w1 ⟨rfl, hb1⟩; obtain ⟨hc1, hz1⟩ := bcell hb1; have hs1 : w.heap.size < w1.heap.size := (by have := hb1.size; simp at this; omega); have hB1 : Below w.heap.size w w1 := ((Below.refl _ _).alloc (Nat.le_refl _) _).trans (hb1.mono (by simp))) | (go_at_call 23; refine (wait_bad _ _ _ _ _ _ _ HB.out).mono ?_; rintro e w2 ⟨rfl, hb2⟩; obtain ⟨hc2, hz2⟩ := bcell hb2; have hs2 : w.heap.size < w2.heap.size := (by have := hb2.size; omega); have hB2 : Below w.heap.size w w2 := hB1.trans (hb2.mono (by omega))) | (go_at_call 24; refine (all_bad _ _ _ _ _ HB.out).mono ?_; rintro e w3 ⟨rfl, hb3⟩; obtain ⟨hc3, hz3⟩ := bcell hb3; have hs3 : w.heap.size < w3.heap.size := (by have := hb3.size; omega); have hB3 : Below w.heap.size w w3 := hB2.trans (hb3.mono (by omega))) | (go_at_call 25; refine (pfault_bad _ _ _ _ _ HB.out).mono ?_; rintro e w4 ⟨rfl, hb4⟩; obtain ⟨hc4, hz4⟩ := bcell hb4; have hs4 : w.heap.size < w4.heap.size := (by have := hb4.size; omega); have hB4 : Below w.heap.size w w4 := hB3.trans (hb4.mono (by omega))) | (go_at_call 26; refine (pcheck_bad _ _ _ _ _ HB.out).mono ?_; rintro e w5 ⟨rfl, hb5⟩; obtain ⟨hc5, hz5⟩ := bcell hb5; have hs5 : w.heap.size < w5.heap.size := (by have := hb5.size; omega); have hB5 : Below w.heap.size w w5 := hB4.trans (hb5.mono (by omega))))
  go_ret
  exact ⟨rfl, by go_grown⟩

set_option maxHeartbeats 1000000 in
theorem tells_none (f t m k n s : Int) (w : World) (s1 : 0 ≤ s) (s2 : s ≤ 18446744073709551615) (hb : pbad f t m k = false) (hn : n < 1 ∨ k < n) :
    Calls Try.prog 6 #[.agg #[.int .i64 f, .int .i64 t, .int .i64 m, .int .i64 k], .int .i64 n, .int .u64 s] w fun e w' => e = .returned (.bool true) ∧ Below w.heap.size w w' := by
  obtain ⟨b1, b2, b3, b4, b5, b6, b7, b8⟩ := pbad_no hb
  have HB := Lib.hid hb
  clear hb
  go_enter Try.func6, Try.ntmps6
  go_wp2_with (first | (go_at_call 22; refine (delay_none _ _ _ _ _ _ HB.out hn).mono ?_; rintro e w1 ⟨rfl, hb1⟩; obtain ⟨hc1, hz1⟩ := bcell hb1; have hs1 : w.heap.size < w1.heap.size := (by have := hb1.size; simp at this; omega); have hB1 : Below w.heap.size w w1 := ((Below.refl _ _).alloc (Nat.le_refl _) _).trans (hb1.mono (by simp))) | (go_at_call 23; refine (wait_none _ _ _ _ _ _ _ HB.out hn).mono ?_; rintro e w2 ⟨rfl, hb2⟩; obtain ⟨hc2, hz2⟩ := bcell hb2; have hs2 : w.heap.size < w2.heap.size := (by have := hb2.size; omega); have hB2 : Below w.heap.size w w2 := hB1.trans (hb2.mono (by omega))) | (go_at_call 24; refine (all_good _ _ _ _ _ HB.out).mono ?_; rintro e w3 ⟨rfl, hb3⟩; obtain ⟨hc3, hz3⟩ := bcell hb3; have hs3 : w.heap.size < w3.heap.size := (by have := hb3.size; omega); have hB3 : Below w.heap.size w w3 := hB2.trans (hb3.mono (by omega))) | (go_at_call 25; refine (pfault_good _ _ _ _ _ HB.out).mono ?_; rintro e w4 ⟨rfl, hb4⟩; obtain ⟨hc4, hz4⟩ := bcell hb4; have hs4 : w.heap.size < w4.heap.size := (by have := hb4.size; omega); have hB4 : Below w.heap.size w w4 := hB3.trans (hb4.mono (by omega))) | (go_at_call 26; refine (pcheck_good _ _ _ _ _ HB.out).mono ?_; rintro e w5 ⟨rfl, hb5⟩; obtain ⟨hc5, hz5⟩ := bcell hb5; have hs5 : w.heap.size < w5.heap.size := (by have := hb5.size; omega); have hB5 : Below w.heap.size w w5 := hB4.trans (hb5.mono (by omega))))
  go_loopw [14, 15] (fun d i wr => ∃ j : Nat, (j : Int) ≤ k ∧ i = .int .i64 ((j : Int) + 1) ∧ d = .int .i64 (delaySum f t m j) ∧ Below w.heap.size w wr ∧ w.heap.size < wr.heap.size ∧ (∀ i, wr.cell? ⟨w.heap.size, i, none⟩ = (#[Value.int .i64 f, .int .i64 t, .int .i64 m, .int .i64 k] : Array Value)[i]?)) (fun _ i _ => (k + 1 - intOf i).toNat)
  case atStart => exact ⟨0, by omega, rfl, rfl, hB5, hs5, fun i => by rw [hc5 _ _ (by omega), hc4 _ _ (by omega), hc3 _ _ (by omega), hc2 _ _ (by omega), hc1 _ _ (by simp)]; simp [go_sem]⟩
  case round =>
    obtain ⟨j, hj, rfl, rfl, hB, hs, hcell⟩ := hrel
    obtain ⟨q1, q2⟩ := delaySum_bd HB.out j
    obtain ⟨d1, d2⟩ := delayAt_bd HB.out (j + 1)
    by_cases hlt : (j : Int) < k
    · go_wp2_with (go_at_call 27; refine (delayOf_good _ _ _ _ _ _ HB.out (by omega) (by omega)).mono ?_; rintro e w6 ⟨rfl, hb6⟩; have hB6 : Below w.heap.size w w6 := hB.trans (hb6.mono (by omega)))
      go_roundw
      case rel => exact ⟨j + 1, by omega, by go_num, by rw [delaySum, delayAt_eq (n := (j : Int) + 1) (by omega)], hB6, by have := hb6.size; omega, fun i => by rw [hb6.cell (p := ⟨w.heap.size, i, none⟩) hs]; exact hcell i⟩
      case measure => simp [intOf]; omega
    · have hk : k.toNat = j := by omega
      subst hk
      have HN := Lib.hid hn
      clear hn
      go_wp2_with (first | (go_at_call 27; refine (delayOf_none _ _ _ _ _ _ HN.out).mono ?_; rintro e w6 ⟨rfl, hb6⟩; have hB6 : Below w.heap.size w w6 := hB.trans (hb6.mono (by omega))))
      go_ret
      exact ⟨ret_bool (by simp), by go_grown⟩


set_option maxHeartbeats 1000000 in
theorem tells_good (f t m k n s : Int) (w : World) (s1 : 0 ≤ s) (s2 : s ≤ 18446744073709551615) (hb : pbad f t m k = false) (h1 : 1 ≤ n) (h2 : n ≤ k) :
    Calls Try.prog 6 #[.agg #[.int .i64 f, .int .i64 t, .int .i64 m, .int .i64 k], .int .i64 n, .int .u64 s] w fun e w' => e = .returned (.bool true) ∧ Below w.heap.size w w' := by
  obtain ⟨b1, b2, b3, b4, b5, b6, b7, b8⟩ := pbad_no hb
  obtain ⟨x1, x2⟩ := delayAt_bd hb n
  obtain ⟨y1, y2⟩ := mixV_bd s n
  have HB := Lib.hid hb
  clear hb
  go_enter Try.func6, Try.ntmps6
  go_wp2_with (first | (go_at_call 22; refine (delay_good _ _ _ _ _ _ HB.out h1 h2).mono ?_; rintro e w1 ⟨rfl, hb1⟩; obtain ⟨hc1, hz1⟩ := bcell hb1; have hs1 : w.heap.size < w1.heap.size := (by have := hb1.size; simp at this; omega); have hB1 : Below w.heap.size w w1 := ((Below.refl _ _).alloc (Nat.le_refl _) _).trans (hb1.mono (by simp))) | (go_at_call 23; refine (wait_good _ _ _ _ _ _ _ HB.out h1 h2 s1 s2).mono ?_; rintro e w2 ⟨rfl, hb2⟩; obtain ⟨hc2, hz2⟩ := bcell hb2; have hs2 : w.heap.size < w2.heap.size := (by have := hb2.size; omega); have hB2 : Below w.heap.size w w2 := hB1.trans (hb2.mono (by omega))) | (go_at_call 24; refine (all_good _ _ _ _ _ HB.out).mono ?_; rintro e w3 ⟨rfl, hb3⟩; obtain ⟨hc3, hz3⟩ := bcell hb3; have hs3 : w.heap.size < w3.heap.size := (by have := hb3.size; omega); have hB3 : Below w.heap.size w w3 := hB2.trans (hb3.mono (by omega))) | (go_at_call 25; refine (pfault_good _ _ _ _ _ HB.out).mono ?_; rintro e w4 ⟨rfl, hb4⟩; obtain ⟨hc4, hz4⟩ := bcell hb4; have hs4 : w.heap.size < w4.heap.size := (by have := hb4.size; omega); have hB4 : Below w.heap.size w w4 := hB3.trans (hb4.mono (by omega))) | (go_at_call 26; refine (pcheck_good _ _ _ _ _ HB.out).mono ?_; rintro e w5 ⟨rfl, hb5⟩; obtain ⟨hc5, hz5⟩ := bcell hb5; have hs5 : w.heap.size < w5.heap.size := (by have := hb5.size; omega); have hB5 : Below w.heap.size w w5 := hB4.trans (hb5.mono (by omega))))
  go_loopw [14, 15] (fun d i wr => ∃ j : Nat, (j : Int) ≤ k ∧ i = .int .i64 ((j : Int) + 1) ∧ d = .int .i64 (delaySum f t m j) ∧ Below w.heap.size w wr ∧ w.heap.size < wr.heap.size ∧ (∀ i, wr.cell? ⟨w.heap.size, i, none⟩ = (#[Value.int .i64 f, .int .i64 t, .int .i64 m, .int .i64 k] : Array Value)[i]?)) (fun _ i _ => (k + 1 - intOf i).toNat)
  case atStart => exact ⟨0, by omega, rfl, rfl, hB5, hs5, fun i => by rw [hc5 _ _ (by omega), hc4 _ _ (by omega), hc3 _ _ (by omega), hc2 _ _ (by omega), hc1 _ _ (by simp)]; simp [go_sem]⟩
  case round =>
    obtain ⟨j, hj, rfl, rfl, hB, hs, hcell⟩ := hrel
    obtain ⟨q1, q2⟩ := delaySum_bd HB.out j
    obtain ⟨d1, d2⟩ := delayAt_bd HB.out (j + 1)
    by_cases hlt : (j : Int) < k
    · go_wp2_with (go_at_call 27; refine (delayOf_good _ _ _ _ _ _ HB.out (by omega) (by omega)).mono ?_; rintro e w6 ⟨rfl, hb6⟩; have hB6 : Below w.heap.size w w6 := hB.trans (hb6.mono (by omega)))
      go_roundw
      case rel => exact ⟨j + 1, by omega, by go_num, by rw [delaySum, delayAt_eq (n := (j : Int) + 1) (by omega)], hB6, by have := hb6.size; omega, fun i => by rw [hb6.cell (p := ⟨w.heap.size, i, none⟩) hs]; exact hcell i⟩
      case measure => simp [intOf]; omega
    · have hk : k.toNat = j := by omega
      subst hk
      have hv : (waitV f t m n s == wrap64 (delayAt f t m n / 2 + wrap64 (mixV s n % (delayAt f t m n - delayAt f t m n / 2 + 1)))) = true := by
        rw [wait_eq _ _ x1 x2, waitV]
        simp
      go_wp2_with (first | (go_at_call 27; refine (delayOf_good _ _ _ _ _ _ HB.out h1 h2).mono ?_; rintro e w6 ⟨rfl, hb6⟩; have hB6 : Below w.heap.size w w6 := hB.trans (hb6.mono (by omega))) | (go_at_call 28; refine (mixOf_any _ _ _ s1 s2).mono ?_; rintro e w7 ⟨rfl, rfl⟩))
      go_ret
      exact ⟨ret_bool rfl, by go_grown⟩

theorem tells_walk (f t m k n s : Int) (w : World) (s1 : 0 ≤ s) (s2 : s ≤ 18446744073709551615) :
    Calls Try.prog 6 #[.agg #[.int .i64 f, .int .i64 t, .int .i64 m, .int .i64 k], .int .i64 n, .int .u64 s] w fun e w' => e = .returned (.bool true) ∧ Below w.heap.size w w' := by
  cases hb : pbad f t m k with
  | true => exact tells_bad f t m k n s w s1 s2 hb
  | false =>
    by_cases h1 : 1 ≤ n
    · by_cases h2 : n ≤ k
      · exact tells_good f t m k n s w s1 s2 hb h1 h2
      · exact tells_none f t m k n s w s1 s2 hb (by omega)
    · exact tells_none f t m k n s w s1 s2 hb (by omega)
end Go.Proofs.Ytdbipmidjdhjpaa
