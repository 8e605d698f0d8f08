/- The walk of the law CivilTells. -/
import Derived.Test.YtdbipmidjdhjpaaDoorCivilDate
namespace Go.Proofs.YtdbipmidjdhjpaaDoor
open Go.ChangeShapes Go.WideShapes Go.ChangeAt Go.RowKit Civ
set_option linter.unusedVariables false

/-- what a law returns: true; what was there before stands -/
def Fine (w : World) (e : Ending) (w' : World) : Prop := e = .returned (.bool true) ∧ Drawn w w'
theorem week_good {n : Int} (h : 0 ≤ n ∧ n ≤ 3652058) : weekV n = (n + 1) % 7 ∧ weekE n = 0 := by simp [weekV, weekE, h]
theorem week_bad {n : Int} (h : n < 0 ∨ 3652058 < n) : weekV n = 0 ∧ weekE n = 4 := by
  have : ¬ (0 ≤ n ∧ n ≤ 3652058) := by omega
  simp [weekV, weekE, this]

set_option maxHeartbeats 4000000 in
theorem civilTells_any (y m d n : Int) (w : World) (hT : Tab w) :
    Calls Tryd.prog 3 #[.int .i64 y, .int .i64 m, .int .i64 d, .int .i64 n] w fun e w' => e = .returned (.bool true) ∧ Drawn w w' := by
  obtain ⟨dy, dm, dd, de, hD⟩ := dateIs_ex n
  have HD := Lib.hid hD
  have HT := Lib.hid hT
  have hs : (0 ≤ n ∧ n ≤ 3652058 ∧ de = 0 ∧ weekV n = (n + 1) % 7 ∧ weekE n = 0) ∨ ((n < 0 ∨ 3652058 < n) ∧ de = 4 ∧ weekV n = 0 ∧ weekE n = 4) := by
    rcases hD with ⟨h1, h2, _, h3⟩ | ⟨h1, _, _, _, h3⟩
    · exact .inl ⟨h1, h2, h3, week_good ⟨h1, h2⟩⟩
    · exact .inr ⟨h1, h3, week_bad h1⟩
  clear hD hT
  have key : ∀ (a b wv we : Int), a = dayV y m d → b = dayE y m d → wv = weekV n → we = weekE n → (0 ≤ n ∧ n ≤ 3652058 ∧ de = 0 ∧ wv = (n + 1) % 7 ∧ we = 0 ∨ (n < 0 ∨ 3652058 < n) ∧ de = 4 ∧ wv = 0 ∧ we = 4) →
      Calls Tryd.prog 3 #[.int .i64 y, .int .i64 m, .int .i64 d, .int .i64 n] w fun e w' => e = .returned (.bool true) ∧ Drawn w w' := by
    intro a b wv we ha hb hwv hwe hcase
    have HA := Lib.hid ha
    have HB := Lib.hid hb
    have HWV := Lib.hid hwv
    have HWE := Lib.hid hwe
    clear ha hb hwv hwe hs
    cases hg : goodB y m with
    | true =>
      obtain ⟨g1, g2, g3, g4⟩ := goodB_yes hg
      have HG := Lib.hid hg
      have HL := Lib.hid (show lenV y m = len y m ∧ lenE y m = 0 from by simp [lenV, lenE, hg])
      clear hg
      rcases hcase with ⟨n1, n2, rfl, rfl, rfl⟩ | ⟨n1, rfl, rfl, rfl⟩
      · go_enter Tryd.func3, Tryd.ntmps3
        go_wp2_with (first
          | (go_at_call 8; refine Calls.mono (Length_any _ _ _ HT.out) ?_; rintro x w' ⟨rfl, p1, rfl⟩; rw [HL.out.1, HL.out.2])
          | (go_at_call 9; refine Calls.mono (Days_any _ _ _ _ HT.out) ?_; rintro x w' ⟨rfl, p2, rfl⟩; rw [← HA.out, ← HB.out])
          | (go_at_call 10; refine Calls.mono (Date_any _ _ _ _ _ _ HT.out HD.out) ?_; rintro x w' ⟨rfl, p3, rfl⟩)
          | (go_at_call 11; refine Calls.mono (Weekday_any _ _) ?_; rintro x w' ⟨rfl, rfl⟩; rw [← HWV.out, ← HWE.out])
          | (go_at_call 12; refine Calls.mono (dayOf_any _ _ _ _) ?_; rintro x w' ⟨rfl, rfl⟩; rw [← HA.out, ← HB.out])
          | (go_at_call 13; refine Calls.mono (dateOf_any _ _ _ _ _ _ HD.out) ?_; rintro x w' ⟨rfl, rfl⟩)
          | (go_at_call 14; refine Calls.mono (goodMonth_any _ _ _) ?_; rintro x w' ⟨rfl, rfl⟩; rw [HG.out])
          | (go_at_call 15; refine Calls.mono (monthDays_any _ _ _ g1 (by omega) g3 g4) ?_; rintro x w' ⟨rfl, rfl⟩))
        all_goals go_ret
        all_goals exact ⟨ret_bool (by first | rfl | simp), Drawn.drewN _ _⟩
      · rcases n1 with n1 | n1
        all_goals
          go_enter Tryd.func3, Tryd.ntmps3
          go_wp2_with (first
            | (go_at_call 8; refine Calls.mono (Length_any _ _ _ HT.out) ?_; rintro x w' ⟨rfl, p1, rfl⟩; rw [HL.out.1, HL.out.2])
            | (go_at_call 9; refine Calls.mono (Days_any _ _ _ _ HT.out) ?_; rintro x w' ⟨rfl, p2, rfl⟩; rw [← HA.out, ← HB.out])
            | (go_at_call 10; refine Calls.mono (Date_any _ _ _ _ _ _ HT.out HD.out) ?_; rintro x w' ⟨rfl, p3, rfl⟩)
            | (go_at_call 11; refine Calls.mono (Weekday_any _ _) ?_; rintro x w' ⟨rfl, rfl⟩; rw [← HWV.out, ← HWE.out])
            | (go_at_call 12; refine Calls.mono (dayOf_any _ _ _ _) ?_; rintro x w' ⟨rfl, rfl⟩; rw [← HA.out, ← HB.out])
            | (go_at_call 13; refine Calls.mono (dateOf_any _ _ _ _ _ _ HD.out) ?_; rintro x w' ⟨rfl, rfl⟩)
            | (go_at_call 14; refine Calls.mono (goodMonth_any _ _ _) ?_; rintro x w' ⟨rfl, rfl⟩; rw [HG.out])
            | (go_at_call 15; refine Calls.mono (monthDays_any _ _ _ g1 (by omega) g3 g4) ?_; rintro x w' ⟨rfl, rfl⟩))
          all_goals go_ret
          all_goals exact ⟨ret_bool (by first | rfl | simp), Drawn.drewN _ _⟩
    | false =>
      have HG := Lib.hid hg
      have HL := Lib.hid (show lenV y m = 0 ∧ lenE y m = 4 from by simp [lenV, lenE, hg])
      clear hg
      rcases hcase with ⟨n1, n2, rfl, rfl, rfl⟩ | ⟨n1, rfl, rfl, rfl⟩
      · go_enter Tryd.func3, Tryd.ntmps3
        go_wp2_with (first
          | (go_at_call 8; refine Calls.mono (Length_any _ _ _ HT.out) ?_; rintro x w' ⟨rfl, p1, rfl⟩; rw [HL.out.1, HL.out.2])
          | (go_at_call 9; refine Calls.mono (Days_any _ _ _ _ HT.out) ?_; rintro x w' ⟨rfl, p2, rfl⟩; rw [← HA.out, ← HB.out])
          | (go_at_call 10; refine Calls.mono (Date_any _ _ _ _ _ _ HT.out HD.out) ?_; rintro x w' ⟨rfl, p3, rfl⟩)
          | (go_at_call 11; refine Calls.mono (Weekday_any _ _) ?_; rintro x w' ⟨rfl, rfl⟩; rw [← HWV.out, ← HWE.out])
          | (go_at_call 12; refine Calls.mono (dayOf_any _ _ _ _) ?_; rintro x w' ⟨rfl, rfl⟩; rw [← HA.out, ← HB.out])
          | (go_at_call 13; refine Calls.mono (dateOf_any _ _ _ _ _ _ HD.out) ?_; rintro x w' ⟨rfl, rfl⟩)
          | (go_at_call 14; refine Calls.mono (goodMonth_any _ _ _) ?_; rintro x w' ⟨rfl, rfl⟩; rw [HG.out]))
        all_goals go_ret
        all_goals exact ⟨ret_bool (by first | rfl | simp), Drawn.drewN _ _⟩
      · rcases n1 with n1 | n1
        all_goals
          go_enter Tryd.func3, Tryd.ntmps3
          go_wp2_with (first
            | (go_at_call 8; refine Calls.mono (Length_any _ _ _ HT.out) ?_; rintro x w' ⟨rfl, p1, rfl⟩; rw [HL.out.1, HL.out.2])
            | (go_at_call 9; refine Calls.mono (Days_any _ _ _ _ HT.out) ?_; rintro x w' ⟨rfl, p2, rfl⟩; rw [← HA.out, ← HB.out])
            | (go_at_call 10; refine Calls.mono (Date_any _ _ _ _ _ _ HT.out HD.out) ?_; rintro x w' ⟨rfl, p3, rfl⟩)
            | (go_at_call 11; refine Calls.mono (Weekday_any _ _) ?_; rintro x w' ⟨rfl, rfl⟩; rw [← HWV.out, ← HWE.out])
            | (go_at_call 12; refine Calls.mono (dayOf_any _ _ _ _) ?_; rintro x w' ⟨rfl, rfl⟩; rw [← HA.out, ← HB.out])
            | (go_at_call 13; refine Calls.mono (dateOf_any _ _ _ _ _ _ HD.out) ?_; rintro x w' ⟨rfl, rfl⟩)
            | (go_at_call 14; refine Calls.mono (goodMonth_any _ _ _) ?_; rintro x w' ⟨rfl, rfl⟩; rw [HG.out]))
          all_goals go_ret
          all_goals exact ⟨ret_bool (by first | rfl | simp), Drawn.drewN _ _⟩
  exact key _ _ _ _ rfl rfl rfl rfl hs
end Go.Proofs.YtdbipmidjdhjpaaDoor
