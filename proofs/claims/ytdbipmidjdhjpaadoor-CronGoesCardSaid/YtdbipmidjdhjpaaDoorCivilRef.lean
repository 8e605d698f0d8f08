/- Contracts of the document's functions on days. -/
import Derived.Test.YtdbipmidjdhjpaaDoorCivil
namespace Go.Proofs.YtdbipmidjdhjpaaDoor
open Go.ChangeShapes Go.WideShapes Go.ChangeAt Go.RowKit Civ
set_option linter.unusedVariables false

theorem len_lp1 {y : Int} (h : lp y = true) : (29 : Int) = len y 2 := by simp [len, lpi, h]
theorem len_lp0 {y : Int} (h : lp y = false) : (28 : Int) = len y 2 := by simp [len, lpi, h]
set_option maxHeartbeats 1000000 in
theorem monthDays_any (y m : Int) (w : World) (h1 : 1 ≤ y) (h2 : y ≤ 10000) (h3 : 1 ≤ m) (h4 : m ≤ 12) :
    Calls Tryd.prog 15 #[.int .i64 y, .int .i64 m] w fun e w' => e = .returned (.int .i64 (len y m)) ∧ w = w' := by
  rcases months h3 h4 with rfl | rfl | rfl | rfl | rfl | rfl | rfl | rfl | rfl | rfl | rfl | rfl
  case inr.inl =>
    cases hl : lp y with
    | true =>
      have HL := Lib.hid hl
      clear hl
      go_enter Tryd.func15, Tryd.ntmps15
      go_wp2_with (go_at_call 45; refine (longYear_any _ _ h1 h2).mono ?_; rintro e w' ⟨rfl, rfl⟩; rw [HL.out])
      go_ret
      exact ⟨ret_int (len_lp1 HL.out), rfl⟩
    | false =>
      have HL := Lib.hid hl
      clear hl
      go_enter Tryd.func15, Tryd.ntmps15
      go_wp2_with (go_at_call 45; refine (longYear_any _ _ h1 h2).mono ?_; rintro e w' ⟨rfl, rfl⟩; rw [HL.out])
      go_ret
      exact ⟨ret_int (len_lp0 HL.out), rfl⟩
  all_goals
    go_enter Tryd.func15, Tryd.ntmps15
    go_wp2_with fail
    go_ret
    exact ⟨ret_int (by simp [len]), rfl⟩

theorem goodMonth_any (y m : Int) (w : World) :
    Calls Tryd.prog 14 #[.int .i64 y, .int .i64 m] w fun e w' => e = .returned (.bool (goodB y m)) ∧ w = w' := by
  cases hg : goodB y m with
  | true =>
    obtain ⟨h1, h2, h3, h4⟩ := goodB_yes hg
    clear hg
    go_enter Tryd.func14, Tryd.ntmps14
    go_wp2
    go_ret
    exact ⟨ret_bool (by first | rfl | simp), rfl⟩
  | false =>
    have HG := Lib.hid (goodB_no hg)
    clear hg
    go_enter Tryd.func14, Tryd.ntmps14
    go_wp2
    all_goals
      go_ret
      exact ⟨ret_bool (by first | rfl | (have q := HG.out; simp <;> omega) | (exfalso; have q := HG.out; omega)), rfl⟩

theorem bef_parts {y : Int} (h : 1 ≤ y) : 146097 * ((y - 1) / 400) + 36524 * ((y - 1) % 400 / 100) + 1461 * ((y - 1) % 100 / 4) + 365 * ((y - 1) % 4) = bef y := by unfold bef; omega

set_option maxHeartbeats 2000000 in
theorem dayOf_any (y m d : Int) (w : World) :
    Calls Tryd.prog 12 #[.int .i64 y, .int .i64 m, .int .i64 d] w fun e w' => e = .returned (.tuple #[.int .i64 (dayV y m d), .int .i64 (dayE y m d)]) ∧ w = w' := by
  cases hg : goodB y m with
  | false =>
    have HV := Lib.hid (show dayV y m d = 0 ∧ dayE y m d = 4 from by simp [dayV, dayE, dateB, hg])
    have HG := Lib.hid hg
    clear hg
    go_enter Tryd.func12, Tryd.ntmps12
    go_wp2_with (go_at_call 14; refine (goodMonth_any _ _ _).mono ?_; rintro e w' ⟨rfl, rfl⟩; rw [HG.out])
    go_ret2
    exact ⟨ret_ii HV.out.1.symm HV.out.2.symm, rfl⟩
  | true =>
    obtain ⟨g1, g2, g3, g4⟩ := goodB_yes hg
    have lb := len_bd y m
    have HG := Lib.hid hg
    cases hd : dateB y m d with
    | false =>
      have HV := Lib.hid (show dayV y m d = 0 ∧ dayE y m d = 4 from by simp [dayV, dayE, hd])
      have HN := dateB_no hd hg
      clear hg hd
      rcases HN with hn | hn
      all_goals
        go_enter Tryd.func12, Tryd.ntmps12
        go_wp2_with (first | (go_at_call 14; refine (goodMonth_any _ _ _).mono ?_; rintro e w' ⟨rfl, rfl⟩; rw [HG.out]) | (go_at_call 15; refine (monthDays_any _ _ _ g1 (by omega) g3 g4).mono ?_; rintro e w' ⟨rfl, rfl⟩))
        all_goals
          go_ret2
          exact ⟨ret_ii HV.out.1.symm HV.out.2.symm, rfl⟩
    | true =>
      have HV := Lib.hid (show dayV y m d = dayN y m d ∧ dayE y m d = 0 from by simp [dayV, dayE, hd])
      obtain ⟨_, d1, d2⟩ := dateB_yes hd
      have bb := bef_bd g1 (by omega)
      have HP := Lib.hid (bef_parts g1)
      clear hg hd
      go_enter Tryd.func12, Tryd.ntmps12
      go_wp2_with (first | (go_at_call 14; refine (goodMonth_any _ _ _).mono ?_; rintro e w' ⟨rfl, rfl⟩; rw [HG.out]) | (go_at_call 15; refine (monthDays_any _ _ _ g1 (by omega) g3 g4).mono ?_; rintro e w' ⟨rfl, rfl⟩))
      go_loop [9, 10] (fun n k => ∃ j : Int, 1 ≤ j ∧ j ≤ m ∧ k = .int .i64 j ∧ n = .int .i64 (bef y + cumL y j)) (fun _ k => (m - intOf k).toNat)
      case atStart => exact ⟨1, by omega, by omega, rfl, by rw [HP.out, cumL_one, Int.add_zero]⟩
      case round =>
        obtain ⟨j, j1, j2, rfl, rfl⟩ := hrel
        have cb := cumL_bd y j1 (by omega)
        have lj := len_bd y j
        by_cases hlt : j < m
        · have HC := Lib.hid (cumL_succ y j1 (by omega))
          go_wp2_with (go_at_call 15; refine (monthDays_any _ _ _ g1 (by omega) j1 (by omega)).mono ?_; rintro e w' ⟨rfl, rfl⟩)
          go_round
          case rel => exact ⟨j + 1, by omega, by omega, rfl, by rw [HC.out, Int.add_assoc]⟩
          case measure => simp [intOf]; omega
        · have hj : j = m := by omega
          subst hj
          go_wp2
          go_ret2
          exact ⟨ret_ii (by rw [HV.out.1, dayN]) HV.out.2.symm, rfl⟩
end Go.Proofs.YtdbipmidjdhjpaaDoor
