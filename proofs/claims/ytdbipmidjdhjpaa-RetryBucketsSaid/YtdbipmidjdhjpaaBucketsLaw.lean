/- RetryBuckets: the law's own walk: at every bucket, time and number the law returns true. -/
import Derived.Test.YtdbipmidjdhjpaaGrant
namespace Go.Proofs.Ytdbipmidjdhjpaa
open Go.ChangeShapes Go.WideShapes Go.ChangeAt Go.RowKit
set_option linter.unusedVariables false

theorem fault_ok (s r h a now : Int) (w : World) (hf : bfault s r h a now = 0) :
    Calls Try.prog 20 #[.agg #[.int .i64 s, .int .i64 r, .int .i64 h, .int .i64 a], .int .i64 now] w fun e w' => e = .returned (.int .i64 0) ∧ Below w.heap.size w w' := by
  have h1 := fault_any s r h a now w
  rwa [hf] at h1

set_option maxHeartbeats 1000000 in
theorem law_fault (s r h a now n : Int) (w : World) (hf : ¬ bfault s r h a now = 0) :
    Calls Try.prog 5 #[.agg #[.int .i64 s, .int .i64 r, .int .i64 h, .int .i64 a], .int .i64 now, .int .i64 n] w fun e w' => e = .returned (.bool true) ∧ Below w.heap.size w w' := by
  have hq1 : (bfault s r h a now == 0) = false := by simpa using hf
  have hq2 : (bfault s r h a now != 0) = true := by simpa using hf
  have HF := Lib.hid hf
  clear hf
  go_enter Try.func5, Try.ntmps5
  go_wp2_with (first | (go_at_call 18; refine (have_fault _ _ _ _ _ _ HF.out).mono ?_; rintro e w1 ⟨rfl, hb1⟩; obtain ⟨hc1, hz1⟩ := bcell hb1; have hs1 : w.heap.size < w1.heap.size := (by have := hb1.size; simp at this; omega); have hB1 : Below w.heap.size w w1 := ((Below.refl _ _).alloc (Nat.le_refl _) _).trans (hb1.mono (by simp))) | (go_at_call 19; refine (grant_fault _ _ _ _ _ _ _ HF.out).mono ?_; rintro e w2 ⟨rfl, hb2⟩; obtain ⟨hc2, hz2⟩ := bcell hb2; have hs2 : w.heap.size < w2.heap.size := (by have := hb2.size; omega); have hB2 : Below w.heap.size w w2 := hB1.trans (hb2.mono (by omega))) | (go_at_call 20; refine (fault_any _ _ _ _ _ _).mono ?_; rintro e w3 ⟨rfl, hb3⟩; obtain ⟨hc3, hz3⟩ := bcell hb3; have hs3 : w2.heap.size < w3.heap.size := (by have := hb3.size; simp at this; omega); have hs3x : w.heap.size < w3.heap.size := (by omega); have hB3 : Below w.heap.size w w3 := (hB2.alloc (by omega) _).trans (hb3.mono (by simp; omega))))
  all_goals
    go_ret
    exact ⟨ret_bool (by simp), by go_grown⟩

set_option maxHeartbeats 1000000 in
theorem law_low (s r h a now n : Int) (w : World) (hf : bfault s r h a now = 0) (hn : n < 0) :
    Calls Try.prog 5 #[.agg #[.int .i64 s, .int .i64 r, .int .i64 h, .int .i64 a], .int .i64 now, .int .i64 n] w fun e w' => e = .returned (.bool true) ∧ Below w.heap.size w w' := by
  have hl := holdsV_le hf
  obtain ⟨hl1, hl2⟩ := hl
  have HF := Lib.hid hf
  clear hf
  go_enter Try.func5, Try.ntmps5
  go_wp2_with (first | (go_at_call 18; refine (have_ok _ _ _ _ _ _ HF.out).mono ?_; rintro e w1 ⟨rfl, hb1⟩; obtain ⟨hc1, hz1⟩ := bcell hb1; have hs1 : w.heap.size < w1.heap.size := (by have := hb1.size; simp at this; omega); have hB1 : Below w.heap.size w w1 := ((Below.refl _ _).alloc (Nat.le_refl _) _).trans (hb1.mono (by simp))) | (go_at_call 19; refine (grant_low _ _ _ _ _ _ _ HF.out hn).mono ?_; rintro e w2 ⟨rfl, hb2⟩; obtain ⟨hc2, hz2⟩ := bcell hb2; have hs2 : w.heap.size < w2.heap.size := (by have := hb2.size; omega); have hB2 : Below w.heap.size w w2 := hB1.trans (hb2.mono (by omega))) | (go_at_call 20; refine (fault_ok _ _ _ _ _ _ HF.out).mono ?_; rintro e w3 ⟨rfl, hb3⟩; obtain ⟨hc3, hz3⟩ := bcell hb3; have hs3 : w2.heap.size < w3.heap.size := (by have := hb3.size; simp at this; omega); have hs3x : w.heap.size < w3.heap.size := (by omega); have hB3 : Below w.heap.size w w3 := (hB2.alloc (by omega) _).trans (hb3.mono (by simp; omega))) | (go_at_call 21; refine (holds_any _ _ _ _ _ _ HF.out).mono ?_; rintro e w4 ⟨rfl, hb4⟩; obtain ⟨hc4, hz4⟩ := bcell hb4; have hs4 : w3.heap.size < w4.heap.size := (by have := hb4.size; simp at this; omega); have hs4x : w.heap.size < w4.heap.size := (by omega); have hs4y : w2.heap.size < w4.heap.size := (by omega); have hB4 : Below w.heap.size w w4 := (hB3.alloc (by omega) _).trans (hb4.mono (by simp; omega))))
  all_goals
    go_ret
    exact ⟨ret_bool (by simp), by go_grown⟩

set_option maxHeartbeats 1000000 in
theorem law_high (s r h a now n : Int) (w : World) (hf : bfault s r h a now = 0) (hn : 0 ≤ n) (hm : 1099511627776 < n) :
    Calls Try.prog 5 #[.agg #[.int .i64 s, .int .i64 r, .int .i64 h, .int .i64 a], .int .i64 now, .int .i64 n] w fun e w' => e = .returned (.bool true) ∧ Below w.heap.size w w' := by
  have hl := holdsV_le hf
  obtain ⟨hl1, hl2⟩ := hl
  have HF := Lib.hid hf
  clear hf
  go_enter Try.func5, Try.ntmps5
  go_wp2_with (first | (go_at_call 18; refine (have_ok _ _ _ _ _ _ HF.out).mono ?_; rintro e w1 ⟨rfl, hb1⟩; obtain ⟨hc1, hz1⟩ := bcell hb1; have hs1 : w.heap.size < w1.heap.size := (by have := hb1.size; simp at this; omega); have hB1 : Below w.heap.size w w1 := ((Below.refl _ _).alloc (Nat.le_refl _) _).trans (hb1.mono (by simp))) | (go_at_call 19; refine (grant_high _ _ _ _ _ _ _ HF.out hn hm).mono ?_; rintro e w2 ⟨rfl, hb2⟩; obtain ⟨hc2, hz2⟩ := bcell hb2; have hs2 : w.heap.size < w2.heap.size := (by have := hb2.size; omega); have hB2 : Below w.heap.size w w2 := hB1.trans (hb2.mono (by omega))) | (go_at_call 20; refine (fault_ok _ _ _ _ _ _ HF.out).mono ?_; rintro e w3 ⟨rfl, hb3⟩; obtain ⟨hc3, hz3⟩ := bcell hb3; have hs3 : w2.heap.size < w3.heap.size := (by have := hb3.size; simp at this; omega); have hs3x : w.heap.size < w3.heap.size := (by omega); have hB3 : Below w.heap.size w w3 := (hB2.alloc (by omega) _).trans (hb3.mono (by simp; omega))) | (go_at_call 21; refine (holds_any _ _ _ _ _ _ HF.out).mono ?_; rintro e w4 ⟨rfl, hb4⟩; obtain ⟨hc4, hz4⟩ := bcell hb4; have hs4 : w3.heap.size < w4.heap.size := (by have := hb4.size; simp at this; omega); have hs4x : w.heap.size < w4.heap.size := (by omega); have hs4y : w2.heap.size < w4.heap.size := (by omega); have hB4 : Below w.heap.size w w4 := (hB3.alloc (by omega) _).trans (hb4.mono (by simp; omega))))
  all_goals
    go_ret
    exact ⟨ret_bool (by simp), by go_grown⟩

set_option maxHeartbeats 1000000 in
theorem law_no (s r h a now n : Int) (w : World) (hf : bfault s r h a now = 0) (hn : 0 ≤ n) (hm : n ≤ 1099511627776) (hv : holdsV s r h a now < n) :
    Calls Try.prog 5 #[.agg #[.int .i64 s, .int .i64 r, .int .i64 h, .int .i64 a], .int .i64 now, .int .i64 n] w fun e w' => e = .returned (.bool true) ∧ Below w.heap.size w w' := by
  have hl := holdsV_le hf
  obtain ⟨hl1, hl2⟩ := hl
  have HF := Lib.hid hf
  clear hf
  go_enter Try.func5, Try.ntmps5
  go_wp2_with (first | (go_at_call 18; refine (have_ok _ _ _ _ _ _ HF.out).mono ?_; rintro e w1 ⟨rfl, hb1⟩; obtain ⟨hc1, hz1⟩ := bcell hb1; have hs1 : w.heap.size < w1.heap.size := (by have := hb1.size; simp at this; omega); have hB1 : Below w.heap.size w w1 := ((Below.refl _ _).alloc (Nat.le_refl _) _).trans (hb1.mono (by simp))) | (go_at_call 19; refine (grant_no _ _ _ _ _ _ _ HF.out hn hm hv).mono ?_; rintro e w2 ⟨rfl, hb2⟩; obtain ⟨hc2, hz2⟩ := bcell hb2; have hs2 : w.heap.size < w2.heap.size := (by have := hb2.size; omega); have hB2 : Below w.heap.size w w2 := hB1.trans (hb2.mono (by omega))) | (go_at_call 20; refine (fault_ok _ _ _ _ _ _ HF.out).mono ?_; rintro e w3 ⟨rfl, hb3⟩; obtain ⟨hc3, hz3⟩ := bcell hb3; have hs3 : w2.heap.size < w3.heap.size := (by have := hb3.size; simp at this; omega); have hs3x : w.heap.size < w3.heap.size := (by omega); have hB3 : Below w.heap.size w w3 := (hB2.alloc (by omega) _).trans (hb3.mono (by simp; omega))) | (go_at_call 21; refine (holds_any _ _ _ _ _ _ HF.out).mono ?_; rintro e w4 ⟨rfl, hb4⟩; obtain ⟨hc4, hz4⟩ := bcell hb4; have hs4 : w3.heap.size < w4.heap.size := (by have := hb4.size; simp at this; omega); have hs4x : w.heap.size < w4.heap.size := (by omega); have hs4y : w2.heap.size < w4.heap.size := (by omega); have hB4 : Below w.heap.size w w4 := (hB3.alloc (by omega) _).trans (hb4.mono (by simp; omega))))
  all_goals
    go_ret
    exact ⟨ret_bool (by simp), by go_grown⟩

set_option maxHeartbeats 1000000 in
theorem law_yes (s r h a now n : Int) (w : World) (hf : bfault s r h a now = 0) (hn : 0 ≤ n) (hm : n ≤ 1099511627776) (hv : n ≤ holdsV s r h a now) :
    Calls Try.prog 5 #[.agg #[.int .i64 s, .int .i64 r, .int .i64 h, .int .i64 a], .int .i64 now, .int .i64 n] w fun e w' => e = .returned (.bool true) ∧ Below w.heap.size w w' := by
  have hl := holdsV_le hf
  obtain ⟨hl1, hl2⟩ := hl
  have HF := Lib.hid hf
  clear hf
  go_enter Try.func5, Try.ntmps5
  go_wp2_with (first | (go_at_call 18; refine (have_ok _ _ _ _ _ _ HF.out).mono ?_; rintro e w1 ⟨rfl, hb1⟩; obtain ⟨hc1, hz1⟩ := bcell hb1; have hs1 : w.heap.size < w1.heap.size := (by have := hb1.size; simp at this; omega); have hB1 : Below w.heap.size w w1 := ((Below.refl _ _).alloc (Nat.le_refl _) _).trans (hb1.mono (by simp))) | (go_at_call 19; refine (grant_yes _ _ _ _ _ _ _ HF.out hn hm hv).mono ?_; rintro e w2 ⟨rfl, hb2⟩; obtain ⟨hc2, hz2⟩ := bcell hb2; have hs2 : w.heap.size < w2.heap.size := (by have := hb2.size; omega); have hB2 : Below w.heap.size w w2 := hB1.trans (hb2.mono (by omega))) | (go_at_call 20; refine (fault_ok _ _ _ _ _ _ HF.out).mono ?_; rintro e w3 ⟨rfl, hb3⟩; obtain ⟨hc3, hz3⟩ := bcell hb3; have hs3 : w2.heap.size < w3.heap.size := (by have := hb3.size; simp at this; omega); have hs3x : w.heap.size < w3.heap.size := (by omega); have hB3 : Below w.heap.size w w3 := (hB2.alloc (by omega) _).trans (hb3.mono (by simp; omega))) | (go_at_call 21; refine (holds_any _ _ _ _ _ _ HF.out).mono ?_; rintro e w4 ⟨rfl, hb4⟩; obtain ⟨hc4, hz4⟩ := bcell hb4; have hs4 : w3.heap.size < w4.heap.size := (by have := hb4.size; simp at this; omega); have hs4x : w.heap.size < w4.heap.size := (by omega); have hs4y : w2.heap.size < w4.heap.size := (by omega); have hB4 : Below w.heap.size w w4 := (hB3.alloc (by omega) _).trans (hb4.mono (by simp; omega))))
  all_goals
    go_ret
    exact ⟨ret_bool (by simp), by go_grown⟩

theorem buckets_walk (s r h a now n : Int) (w : World) :
    Calls Try.prog 5 #[.agg #[.int .i64 s, .int .i64 r, .int .i64 h, .int .i64 a], .int .i64 now, .int .i64 n] w fun e w' => e = .returned (.bool true) ∧ Below w.heap.size w w' := by
  by_cases hf : bfault s r h a now = 0
  · by_cases h1 : n < 0
    · exact law_low s r h a now n w hf h1
    · by_cases h2 : 1099511627776 < n
      · exact law_high s r h a now n w hf (by omega) h2
      · by_cases h3 : holdsV s r h a now < n
        · exact law_no s r h a now n w hf (by omega) (by omega) h3
        · exact law_yes s r h a now n w hf (by omega) (by omega) (by omega)
  · exact law_fault s r h a now n w hf
end Go.Proofs.Ytdbipmidjdhjpaa
