/- RetryBuckets: the contract of Grant, and the law. -/
import Derived.Test.YtdbipmidjdhjpaaBuckets
import Derived.Test.YtdbipmidjdhjpaaBase
namespace Go.Proofs.Ytdbipmidjdhjpaa
open Go.ChangeShapes Go.WideShapes Go.ChangeAt Go.RowKit
set_option linter.unusedVariables false

theorem have_fault (s r h a now : Int) (w : World) (hf : ¬ bfault s r h a now = 0) :
    Calls Try.prog 18 #[.agg #[.int .i64 s, .int .i64 r, .int .i64 h, .int .i64 a], .int .i64 now] w fun e w' => e = .returned (.tuple #[.int .i64 0, .int .i64 (bfault s r h a now)]) ∧ Below w.heap.size w w' := by
  have h1 := have_any s r h a now w
  unfold haveV at h1
  rwa [if_neg hf] at h1
theorem have_ok (s r h a now : Int) (w : World) (hf : bfault s r h a now = 0) :
    Calls Try.prog 18 #[.agg #[.int .i64 s, .int .i64 r, .int .i64 h, .int .i64 a], .int .i64 now] w fun e w' => e = .returned (.tuple #[.int .i64 (holdsV s r h a now), .int .i64 0]) ∧ Below w.heap.size w w' := by
  have h1 := have_any s r h a now w
  unfold haveV at h1
  rwa [if_pos hf, hf] at h1

theorem grant_fault (s r h a now n : Int) (w : World) (hf : ¬ bfault s r h a now = 0) :
    Calls Try.prog 19 #[.agg #[.int .i64 s, .int .i64 r, .int .i64 h, .int .i64 a], .int .i64 now, .int .i64 n] w fun e w' => e = .returned (.tuple #[.agg #[.int .i64 0, .int .i64 0, .int .i64 0, .int .i64 0], .bool false, .int .i64 (bfault s r h a now)]) ∧ Below w.heap.size w w' := by
  have hq1 : (bfault s r h a now == 0) = false := by simpa using hf
  have hq2 : (bfault s r h a now != 0) = true := by simpa using hf
  have HF := Lib.hid hf
  clear hf
  go_enter Try.func19, Try.ntmps19
  go_wp2_with (go_at_call 18; refine (have_fault _ _ _ _ _ _ HF.out).mono ?_; rintro e w1 ⟨rfl, hb1⟩; obtain ⟨hc1, hz1⟩ := bcell hb1; have hs1 : w.heap.size + 1 + 1 ≤ w1.heap.size := (by have := hb1.size; simpa using this); have q0 : w1.cell? ⟨w.heap.size + 1, 0, none⟩ = some (.int .i64 0) := (by rw [hc1 _ _ (by simp)]; simp [go_sem]); have q1 : w1.cell? ⟨w.heap.size + 1, 1, none⟩ = some (.int .i64 0) := (by rw [hc1 _ _ (by simp)]; simp [go_sem]); have q2 : w1.cell? ⟨w.heap.size + 1, 2, none⟩ = some (.int .i64 0) := (by rw [hc1 _ _ (by simp)]; simp [go_sem]); have q3 : w1.cell? ⟨w.heap.size + 1, 3, none⟩ = some (.int .i64 0) := (by rw [hc1 _ _ (by simp)]; simp [go_sem]))
  all_goals
    have hB : Below w.heap.size w w1 := (((Below.refl _ _).alloc (Nat.le_refl _) _).alloc (by simp) _).trans (hb1.mono (by simp; omega))
    refine bodyPost_ret (v := .tuple #[.agg #[.int .i64 0, .int .i64 0, .int .i64 0, .int .i64 0], .bool false, .int .i64 (bfault s r h a now)]) (by simp [results, Try.results19, go_sem, cell_set, q0, q1, q2, q3]) rfl ⟨rfl, ?_⟩
    go_grown

theorem grant_low (s r h a now n : Int) (w : World) (hf : bfault s r h a now = 0) (hn : n < 0) :
    Calls Try.prog 19 #[.agg #[.int .i64 s, .int .i64 r, .int .i64 h, .int .i64 a], .int .i64 now, .int .i64 n] w fun e w' => e = .returned (.tuple #[.agg #[.int .i64 0, .int .i64 0, .int .i64 0, .int .i64 0], .bool false, .int .i64 4]) ∧ Below w.heap.size w w' := by
  have HF := Lib.hid hf
  clear hf
  go_enter Try.func19, Try.ntmps19
  go_wp2_with (go_at_call 18; refine (have_ok _ _ _ _ _ _ HF.out).mono ?_; rintro e w1 ⟨rfl, hb1⟩; obtain ⟨hc1, hz1⟩ := bcell hb1; have hs1 : w.heap.size + 1 + 1 ≤ w1.heap.size := (by have := hb1.size; simpa using this); have q0 : w1.cell? ⟨w.heap.size + 1, 0, none⟩ = some (.int .i64 0) := (by rw [hc1 _ _ (by simp)]; simp [go_sem]); have q1 : w1.cell? ⟨w.heap.size + 1, 1, none⟩ = some (.int .i64 0) := (by rw [hc1 _ _ (by simp)]; simp [go_sem]); have q2 : w1.cell? ⟨w.heap.size + 1, 2, none⟩ = some (.int .i64 0) := (by rw [hc1 _ _ (by simp)]; simp [go_sem]); have q3 : w1.cell? ⟨w.heap.size + 1, 3, none⟩ = some (.int .i64 0) := (by rw [hc1 _ _ (by simp)]; simp [go_sem]))
  all_goals
    have hB : Below w.heap.size w w1 := (((Below.refl _ _).alloc (Nat.le_refl _) _).alloc (by simp) _).trans (hb1.mono (by simp; omega))
    refine bodyPost_ret (v := .tuple #[.agg #[.int .i64 0, .int .i64 0, .int .i64 0, .int .i64 0], .bool false, .int .i64 4]) (by simp [results, Try.results19, go_sem, cell_set, q0, q1, q2, q3]) rfl ⟨rfl, ?_⟩
    go_grown

theorem grant_high (s r h a now n : Int) (w : World) (hf : bfault s r h a now = 0) (hn : 0 ≤ n) (hm : 1099511627776 < n) :
    Calls Try.prog 19 #[.agg #[.int .i64 s, .int .i64 r, .int .i64 h, .int .i64 a], .int .i64 now, .int .i64 n] w fun e w' => e = .returned (.tuple #[.agg #[.int .i64 0, .int .i64 0, .int .i64 0, .int .i64 0], .bool false, .int .i64 4]) ∧ Below w.heap.size w w' := by
  have HF := Lib.hid hf
  clear hf
  go_enter Try.func19, Try.ntmps19
  go_wp2_with (go_at_call 18; refine (have_ok _ _ _ _ _ _ HF.out).mono ?_; rintro e w1 ⟨rfl, hb1⟩; obtain ⟨hc1, hz1⟩ := bcell hb1; have hs1 : w.heap.size + 1 + 1 ≤ w1.heap.size := (by have := hb1.size; simpa using this); have q0 : w1.cell? ⟨w.heap.size + 1, 0, none⟩ = some (.int .i64 0) := (by rw [hc1 _ _ (by simp)]; simp [go_sem]); have q1 : w1.cell? ⟨w.heap.size + 1, 1, none⟩ = some (.int .i64 0) := (by rw [hc1 _ _ (by simp)]; simp [go_sem]); have q2 : w1.cell? ⟨w.heap.size + 1, 2, none⟩ = some (.int .i64 0) := (by rw [hc1 _ _ (by simp)]; simp [go_sem]); have q3 : w1.cell? ⟨w.heap.size + 1, 3, none⟩ = some (.int .i64 0) := (by rw [hc1 _ _ (by simp)]; simp [go_sem]))
  all_goals
    have hB : Below w.heap.size w w1 := (((Below.refl _ _).alloc (Nat.le_refl _) _).alloc (by simp) _).trans (hb1.mono (by simp; omega))
    refine bodyPost_ret (v := .tuple #[.agg #[.int .i64 0, .int .i64 0, .int .i64 0, .int .i64 0], .bool false, .int .i64 4]) (by simp [results, Try.results19, go_sem, cell_set, q0, q1, q2, q3]) rfl ⟨rfl, ?_⟩
    go_grown

theorem grant_no (s r h a now n : Int) (w : World) (hf : bfault s r h a now = 0) (hn : 0 ≤ n) (hm : n ≤ 1099511627776) (hv : holdsV s r h a now < n) :
    Calls Try.prog 19 #[.agg #[.int .i64 s, .int .i64 r, .int .i64 h, .int .i64 a], .int .i64 now, .int .i64 n] w fun e w' => e = .returned (.tuple #[.agg #[.int .i64 s, .int .i64 r, .int .i64 h, .int .i64 a], .bool false, .int .i64 0]) ∧ Below w.heap.size w w' := by
  have hl := holdsV_le hf
  obtain ⟨hl1, hl2⟩ := hl
  have HF := Lib.hid hf
  clear hf
  go_enter Try.func19, Try.ntmps19
  go_wp2_with (go_at_call 18; refine (have_ok _ _ _ _ _ _ HF.out).mono ?_; rintro e w1 ⟨rfl, hb1⟩; obtain ⟨hc1, hz1⟩ := bcell hb1; have hs1 : w.heap.size + 1 + 1 ≤ w1.heap.size := (by have := hb1.size; simpa using this); have q0 : w1.cell? ⟨w.heap.size + 1, 0, none⟩ = some (.int .i64 0) := (by rw [hc1 _ _ (by simp)]; simp [go_sem]); have q1 : w1.cell? ⟨w.heap.size + 1, 1, none⟩ = some (.int .i64 0) := (by rw [hc1 _ _ (by simp)]; simp [go_sem]); have q2 : w1.cell? ⟨w.heap.size + 1, 2, none⟩ = some (.int .i64 0) := (by rw [hc1 _ _ (by simp)]; simp [go_sem]); have q3 : w1.cell? ⟨w.heap.size + 1, 3, none⟩ = some (.int .i64 0) := (by rw [hc1 _ _ (by simp)]; simp [go_sem]))
  all_goals
    have hB : Below w.heap.size w w1 := (((Below.refl _ _).alloc (Nat.le_refl _) _).alloc (by simp) _).trans (hb1.mono (by simp; omega))
    refine bodyPost_ret (v := .tuple #[.agg #[.int .i64 s, .int .i64 r, .int .i64 h, .int .i64 a], .bool false, .int .i64 0]) (by simp [results, Try.results19, go_sem, cell_set, q0, q1, q2, q3]) rfl ⟨rfl, ?_⟩
    go_grown

theorem grant_yes (s r h a now n : Int) (w : World) (hf : bfault s r h a now = 0) (hn : 0 ≤ n) (hm : n ≤ 1099511627776) (hv : n ≤ holdsV s r h a now) :
    Calls Try.prog 19 #[.agg #[.int .i64 s, .int .i64 r, .int .i64 h, .int .i64 a], .int .i64 now, .int .i64 n] w fun e w' => e = .returned (.tuple #[.agg #[.int .i64 s, .int .i64 r, .int .i64 (holdsV s r h a now - n), .int .i64 now], .bool true, .int .i64 0]) ∧ Below w.heap.size w w' := by
  have hl := holdsV_le hf
  obtain ⟨hl1, hl2⟩ := hl
  have HF := Lib.hid hf
  clear hf
  go_enter Try.func19, Try.ntmps19
  go_wp2_with (go_at_call 18; refine (have_ok _ _ _ _ _ _ HF.out).mono ?_; rintro e w1 ⟨rfl, hb1⟩; obtain ⟨hc1, hz1⟩ := bcell hb1; have hs1 : w.heap.size + 1 + 1 ≤ w1.heap.size := (by have := hb1.size; simpa using this); have q0 : w1.cell? ⟨w.heap.size + 1, 0, none⟩ = some (.int .i64 0) := (by rw [hc1 _ _ (by simp)]; simp [go_sem]); have q1 : w1.cell? ⟨w.heap.size + 1, 1, none⟩ = some (.int .i64 0) := (by rw [hc1 _ _ (by simp)]; simp [go_sem]); have q2 : w1.cell? ⟨w.heap.size + 1, 2, none⟩ = some (.int .i64 0) := (by rw [hc1 _ _ (by simp)]; simp [go_sem]); have q3 : w1.cell? ⟨w.heap.size + 1, 3, none⟩ = some (.int .i64 0) := (by rw [hc1 _ _ (by simp)]; simp [go_sem]))
  all_goals
    have hB : Below w.heap.size w w1 := (((Below.refl _ _).alloc (Nat.le_refl _) _).alloc (by simp) _).trans (hb1.mono (by simp; omega))
    refine bodyPost_ret (v := .tuple #[.agg #[.int .i64 s, .int .i64 r, .int .i64 (holdsV s r h a now - n), .int .i64 now], .bool true, .int .i64 0]) (by simp [results, Try.results19, go_sem, cell_set, q0, q1, q2, q3]) rfl ⟨rfl, ?_⟩
    go_grown

end Go.Proofs.Ytdbipmidjdhjpaa
