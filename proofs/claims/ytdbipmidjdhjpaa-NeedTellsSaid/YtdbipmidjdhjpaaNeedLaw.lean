/- Contract: how often one need is in another one, asked by the law. -/
import Derived.Test.YtdbipmidjdhjpaaNeedTimes
import Derived.Deep.DeepCutAuto
namespace Go.Proofs.Ytdbipmidjdhjpaa
open Go.ChangeShapes Go.WideShapes Go.ChangeAt Go.RowKit
set_option linter.unusedVariables false
set_option linter.unusedSimpArgs false
/-- is the one n times in the other one, of one amount? -/
def tim (a x n : Int) : Bool := !(decide (0 < a) && decide (x / a < n))
def timesB (a b c x y z n : Int) : Bool := tim a x n && tim b y n && tim c z n
/-- two arrays of three, somewhere -/
def Arr2 (w : World) (a b c x y z : Int) (p q : Value) (W : World) : Prop := Below w.heap.size w W ∧ ∃ i j, p = .pointer (some ⟨i, 0, none⟩) ∧ q = .pointer (some ⟨j, 0, none⟩) ∧
  W.cell? ⟨i, 0, none⟩ = some (.int .i64 a) ∧ W.cell? ⟨i, 1, none⟩ = some (.int .i64 b) ∧ W.cell? ⟨i, 2, none⟩ = some (.int .i64 c) ∧ W.cell? ⟨j, 0, none⟩ = some (.int .i64 x) ∧ W.cell? ⟨j, 1, none⟩ = some (.int .i64 y) ∧ W.cell? ⟨j, 2, none⟩ = some (.int .i64 z)
def Sofar (a b c x y z n : Int) (k : Nat) : Prop := (1 ≤ k → tim a x n = true) ∧ (2 ≤ k → tim b y n = true) ∧ (3 ≤ k → tim c z n = true)
set_option maxHeartbeats 8000000 in
theorem times_any (a b c x y z n : Int) (w : World) (h : bothB a b c x y z = true) : Calls Try.prog 38 #[.agg #[.int .i64 a, .int .i64 b, .int .i64 c], .agg #[.int .i64 x, .int .i64 y, .int .i64 z], .int .i64 n] w fun e w' => e = .returned (.bool (timesB a b c x y z n)) ∧ Below w.heap.size w w' := by
  simp only [bothB, Bool.and_eq_true] at h
  obtain ⟨⟨a1, a2⟩, ⟨b1, b2⟩, c1, c2⟩ := needB_yes h.1
  obtain ⟨⟨x1, x2⟩, ⟨y1, y2⟩, z1, z2⟩ := needB_yes h.2
  clear h
  go_enter Try.func38, Try.ntmps38
  go_wp2_with fail
  go_cut [7, 8] (fun p q W => Arr2 w a b c x y z p q W)
  case first =>
    have q0 : Two3 w.heap.size a b c x y z ((w.alloc (.cells #[.int .i64 a, .int .i64 b, .int .i64 c] 35)).alloc (.cells #[.int .i64 x, .int .i64 y, .int .i64 z] 35)) := by
      refine ⟨by simp, ?_, ?_, ?_, ?_, ?_, ?_⟩
      all_goals simp [go_sem]
    have hB0 : Below w.heap.size w ((w.alloc (.cells #[.int .i64 a, .int .i64 b, .int .i64 c] 35)).alloc (.cells #[.int .i64 x, .int .i64 y, .int .i64 z] 35)) := by go_grown
    generalize ((w.alloc (.cells #[.int .i64 a, .int .i64 b, .int .i64 c] 35)).alloc (.cells #[.int .i64 x, .int .i64 y, .int .i64 z] 35)) = w2 at *
    obtain ⟨q1, q2, q3, q4, q5, q6, q7⟩ := id q0
    have hk : Held3 w a b c x y z w2 := ⟨q0, hB0⟩
    clear q0 hB0
    go_region_held3 (fun w' => w'.cell? ⟨w.heap.size, 0, none⟩ = some (.int .i64 a) ∧ w'.cell? ⟨w.heap.size, 1, none⟩ = some (.int .i64 b) ∧ w'.cell? ⟨w.heap.size, 2, none⟩ = some (.int .i64 c) ∧ w'.cell? ⟨w.heap.size + 1, 0, none⟩ = some (.int .i64 x) ∧ w'.cell? ⟨w.heap.size + 1, 1, none⟩ = some (.int .i64 y) ∧ w'.cell? ⟨w.heap.size + 1, 2, none⟩ = some (.int .i64 z))
      ((refine Held3.tail ?_; repeat (first | with_reducible exact hk | with_reducible apply Held3.drew | with_reducible apply Held3.alloc | (with_reducible refine Held3.set ?_ (by dsimp only; omega)))))
      (first
        | (go_at_call 64; refine Calls.mono (amounts_exact _ _ _ _) ?_; rintro e w1 ⟨rfl, rfl⟩))
    all_goals
      clear q2 q3 q4 q5 q6 q7
      go_wp2_with fail
      go_meet
      refine ⟨And.right (a := Two3 w.heap.size a b c x y z _) (show Held3 w a b c x y z _ from ?_), _, _, rfl, rfl, ?_, ?_, ?_, ?_, ?_, ?_⟩
      · (repeat (first | with_reducible exact hk | with_reducible apply Held3.drew | with_reducible apply Held3.alloc | (with_reducible refine Held3.set ?_ (by dsimp only; omega))))
      all_goals simp [go_sem]
  case rest =>
    obtain ⟨hB, i, j, rfl, rfl, e0, e1, e2, e3, e4, e5⟩ := hcut
    go_wp2_with fail
    go_loopw [14] (fun t wr => ∃ k : Nat, k ≤ 3 ∧ t = .int .i64 k ∧ ∃ q, wr = wc.drewN q ∧ Sofar a b c x y z n k) (fun t _ => 3 - (intOf t).toNat)
    case atStart => exact ⟨0, by omega, rfl, 0, rfl, fun h => absurd h (by omega), fun h => absurd h (by omega), fun h => absurd h (by omega)⟩
    case round =>
      obtain ⟨k, hk, rfl, q, rfl, hS⟩ := hrel
      have HS := Lib.hid hS
      clear hS
      have : k = 0 ∨ k = 1 ∨ k = 2 ∨ k = 3 := by omega
      rcases this with rfl | rfl | rfl | rfl
      · by_cases hp : 0 < a
        · by_cases hd : x / a < n
          · have HF := Lib.hid (show timesB a b c x y z n = false from by simp [timesB, tim, hp, hd])
            go_wp2_with fail
            go_quiet (fail)
            go_wp2
            go_ret
            exact ⟨ret_bool HF.out.symm, below_drewN (below_drewN hB _) _⟩
          · have HT := Lib.hid (show tim a x n = true from by simp [tim]; omega)
            go_wp2_with fail
            go_quiet (fail)
            go_wp2
            exact ⟨⟨1, by omega, rfl, _, rfl, fun _ => HT.out, fun h => absurd h (by omega), fun h => absurd h (by omega)⟩, by simp [intOf]⟩
        · have hp' : a ≤ 0 := by omega
          have hp2 : decide (0 < a) = false := by simp; omega
          clear hp
          have HT := Lib.hid (show tim a x n = true from by simp [tim]; omega)
          go_wp2_with fail
          go_quiet (fail)
          go_wp2
          exact ⟨⟨1, by omega, rfl, _, rfl, fun _ => HT.out, fun h => absurd h (by omega), fun h => absurd h (by omega)⟩, by simp [intOf]⟩
      · by_cases hp : 0 < b
        · by_cases hd : y / b < n
          · have HF := Lib.hid (show timesB a b c x y z n = false from by simp [timesB, tim, hp, hd])
            go_wp2_with fail
            go_quiet (fail)
            go_wp2
            go_ret
            exact ⟨ret_bool HF.out.symm, below_drewN (below_drewN hB _) _⟩
          · have HT := Lib.hid (show tim b y n = true from by simp [tim]; omega)
            go_wp2_with fail
            go_quiet (fail)
            go_wp2
            exact ⟨⟨2, by omega, rfl, _, rfl, fun _ => HS.out.1 (by omega), fun _ => HT.out, fun h => absurd h (by omega)⟩, by simp [intOf]⟩
        · have hp' : b ≤ 0 := by omega
          have hp2 : decide (0 < b) = false := by simp; omega
          clear hp
          have HT := Lib.hid (show tim b y n = true from by simp [tim]; omega)
          go_wp2_with fail
          go_quiet (fail)
          go_wp2
          exact ⟨⟨2, by omega, rfl, _, rfl, fun _ => HS.out.1 (by omega), fun _ => HT.out, fun h => absurd h (by omega)⟩, by simp [intOf]⟩
      · by_cases hp : 0 < c
        · by_cases hd : z / c < n
          · have HF := Lib.hid (show timesB a b c x y z n = false from by simp [timesB, tim, hp, hd])
            go_wp2_with fail
            go_quiet (fail)
            go_wp2
            go_ret
            exact ⟨ret_bool HF.out.symm, below_drewN (below_drewN hB _) _⟩
          · have HT := Lib.hid (show tim c z n = true from by simp [tim]; omega)
            go_wp2_with fail
            go_quiet (fail)
            go_wp2
            exact ⟨⟨3, by omega, rfl, _, rfl, fun _ => HS.out.1 (by omega), fun _ => HS.out.2.1 (by omega), fun _ => HT.out⟩, by simp [intOf]⟩
        · have hp' : c ≤ 0 := by omega
          have hp2 : decide (0 < c) = false := by simp; omega
          clear hp
          have HT := Lib.hid (show tim c z n = true from by simp [tim]; omega)
          go_wp2_with fail
          go_quiet (fail)
          go_wp2
          exact ⟨⟨3, by omega, rfl, _, rfl, fun _ => HS.out.1 (by omega), fun _ => HS.out.2.1 (by omega), fun _ => HT.out⟩, by simp [intOf]⟩
      · have HV := Lib.hid (show timesB a b c x y z n = true from by simp [timesB, HS.out.1 (by omega), HS.out.2.1 (by omega), HS.out.2.2 (by omega)])
        go_wp2_with fail
        go_ret
        exact ⟨ret_bool HV.out.symm, below_drewN hB _⟩
end Go.Proofs.Ytdbipmidjdhjpaa
