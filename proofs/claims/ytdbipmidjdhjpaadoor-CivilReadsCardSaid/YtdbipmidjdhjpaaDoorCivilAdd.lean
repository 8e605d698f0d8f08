/- Contracts: months added to a day; the program's and the document's. -/
import Derived.Test.YtdbipmidjdhjpaaDoorCivilDate
namespace Go.Proofs.YtdbipmidjdhjpaaDoor
open Go.ChangeShapes Go.WideShapes Go.ChangeAt Go.RowKit Civ
set_option linter.unusedVariables false

def min' (a b : Int) : Int := if a ≤ b then a else b
/-- what a day some months later is, from the day's date -/
def addV (y m d k : Int) : Int := dayV ((12 * (y - 1) + m - 1 + k) / 12 + 1) ((12 * (y - 1) + m - 1 + k) % 12 + 1) (min' d (len ((12 * (y - 1) + m - 1 + k) / 12 + 1) ((12 * (y - 1) + m - 1 + k) % 12 + 1)))
/-- what Add tells: the day, and what is wrong -/
def AddIs (y m d e k a f : Int) : Prop :=
  (e ≠ 0 ∧ a = 0 ∧ f = e) ∨ (e = 0 ∧ (k < -120000 ∨ 120000 < k) ∧ a = 0 ∧ f = 1) ∨
  (e = 0 ∧ -120000 ≤ k ∧ k ≤ 120000 ∧ (12 * (y - 1) + m - 1 + k < 0 ∨ 119988 ≤ 12 * (y - 1) + m - 1 + k) ∧ a = 0 ∧ f = 4) ∨
  (e = 0 ∧ -120000 ≤ k ∧ k ≤ 120000 ∧ 0 ≤ 12 * (y - 1) + m - 1 + k ∧ 12 * (y - 1) + m - 1 + k < 119988 ∧ a = addV y m d k ∧ f = 0)
theorem addIs_ex (y m d e k : Int) : ∃ a f, AddIs y m d e k a f := by
  by_cases h0 : e = 0
  · by_cases h1 : k < -120000 ∨ 120000 < k
    · exact ⟨0, 1, .inr (.inl ⟨h0, h1, rfl, rfl⟩)⟩
    · by_cases h2 : 12 * (y - 1) + m - 1 + k < 0 ∨ 119988 ≤ 12 * (y - 1) + m - 1 + k
      · exact ⟨0, 4, .inr (.inr (.inl ⟨h0, by omega, by omega, h2, rfl, rfl⟩))⟩
      · exact ⟨_, 0, .inr (.inr (.inr ⟨h0, by omega, by omega, by omega, by omega, rfl, rfl⟩))⟩
  · exact ⟨0, e, .inl ⟨h0, rfl, rfl⟩⟩
theorem dateIs_good {n y m d e : Int} (h : DateIs n y m d e) (he : e = 0) : IsDate n y m d ∧ y ≤ 9999 := by
  rcases h with ⟨h1, h2, h3, _⟩ | ⟨_, _, _, _, h5⟩
  · exact ⟨h3, h3.top h2⟩
  · omega
theorem min_day {y m d : Int} (h1 : 1 ≤ y) (h2 : y ≤ 9999) (h3 : 1 ≤ m) (h4 : m ≤ 12) (h5 : 1 ≤ d) : dateB y m (min' d (len y m)) = true ∧ dayE y m (min' d (len y m)) = 0 := by
  have lb := len_bd y m
  have : dateB y m (min' d (len y m)) = true := by
    unfold min'; split <;> (simp [dateB, goodB]; omega)
  exact ⟨this, by simp [dayE, this]⟩

theorem tdiv_low {x : Int} (h : x < 12) : x.tdiv 12 < 1 := by
  by_cases h0 : 0 ≤ x
  · rw [Int.tdiv_eq_ediv_of_nonneg h0]; omega
  · have e : x = -(-x) := by omega
    rw [e, Int.neg_tdiv, Int.tdiv_eq_ediv_of_nonneg (by omega)]; omega
set_option maxHeartbeats 800000 in
theorem Add_any (n k y m d e a f : Int) (w : World) (hT : Tab w) (h : DateIs n y m d e) (hA : AddIs y m d e k a f) :
    Calls Tryd.prog 16 #[.int .i64 n, .int .i64 k] w fun x w' => x = .returned (.tuple #[.int .i64 a, .int .i64 f]) ∧ Drawn w w' := by
  have HT := Lib.hid hT
  have HD := Lib.hid h
  rcases hA with ⟨h0, rfl, rfl⟩ | ⟨rfl, hk, rfl, rfl⟩ | ⟨rfl, k1, k2, ht, rfl, rfl⟩ | ⟨rfl, k1, k2, t1, t2, hv, rfl⟩
  · clear h hT
    go_enter Tryd.func16, Tryd.ntmps16
    go_wp2_with (go_at_call 10; refine Calls.mono (Date_any _ _ _ _ _ _ HT.out HD.out) ?_; rintro x w' ⟨rfl, p3, rfl⟩)
    go_ret2
    exact ⟨rfl, Drawn.drewN _ _⟩
  · clear h hT
    rcases hk with hk | hk
    all_goals
      go_enter Tryd.func16, Tryd.ntmps16
      go_wp2_with (go_at_call 10; refine Calls.mono (Date_any _ _ _ _ _ _ HT.out HD.out) ?_; rintro x w' ⟨rfl, p3, rfl⟩)
      all_goals
        go_ret2
        exact ⟨rfl, Drawn.drewN _ _⟩
  · obtain ⟨hd, y9⟩ := dateIs_good h rfl
    have y1 := hd.1
    have m1 := hd.2.1
    have m2 := hd.2.2.1
    clear h hT hd
    rcases ht with ht | ht
    · have ht1 := tdiv_low (show m + (12 * y - 1 + k) < 12 from by omega)
      clear ht
      go_enter Tryd.func16, Tryd.ntmps16
      go_wp2_with (go_at_call 10; refine Calls.mono (Date_any _ _ _ _ _ _ HT.out HD.out) ?_; rintro x w' ⟨rfl, p3, rfl⟩)
      all_goals
        go_ret2
        exact ⟨rfl, Drawn.drewN _ _⟩
    · go_enter Tryd.func16, Tryd.ntmps16
      go_wp2_with (go_at_call 10; refine Calls.mono (Date_any _ _ _ _ _ _ HT.out HD.out) ?_; rintro x w' ⟨rfl, p3, rfl⟩)
      all_goals
        go_ret2
        exact ⟨rfl, Drawn.drewN _ _⟩
  · obtain ⟨hd, y9⟩ := dateIs_good h rfl
    have y1 := hd.1
    have m1 := hd.2.1
    have m2 := hd.2.2.1
    have d1 := hd.2.2.2.1
    have q1 : 1 ≤ (m + (12 * y - 1 + k)) / 12 := by omega
    have q2 : (m + (12 * y - 1 + k)) / 12 ≤ 9999 := by omega
    have q3 : 1 ≤ (m + (12 * y - 1 + k)) % 12 + 1 := by omega
    have q4 : (m + (12 * y - 1 + k)) % 12 + 1 ≤ 12 := by omega
    have HV := Lib.hid (show a = dayV ((m + (12 * y - 1 + k)) / 12) ((m + (12 * y - 1 + k)) % 12 + 1) (min' d (len ((m + (12 * y - 1 + k)) / 12) ((m + (12 * y - 1 + k)) % 12 + 1))) from by
      rw [hv, addV, show (12 * (y - 1) + m - 1 + k) / 12 + 1 = (m + (12 * y - 1 + k)) / 12 from by omega, show (12 * (y - 1) + m - 1 + k) % 12 + 1 = (m + (12 * y - 1 + k)) % 12 + 1 from by omega])
    have HG := Lib.hid (min_day q1 q2 q3 q4 d1)
    clear hv
    have mb : 28 ≤ len ((m + (12 * y - 1 + k)) / 12) ((m + (12 * y - 1 + k)) % 12 + 1) := (len_bd _ _).1
    by_cases hmin : d ≤ len ((m + (12 * y - 1 + k)) / 12) ((m + (12 * y - 1 + k)) % 12 + 1)
    · have HM := Lib.hid (show min' d (len ((m + (12 * y - 1 + k)) / 12) ((m + (12 * y - 1 + k)) % 12 + 1)) = d from if_pos hmin)
      go_enter Tryd.func16, Tryd.ntmps16
      go_wp2_with (first
        | (go_at_call 10; refine Calls.mono (Date_any _ _ _ _ _ _ HT.out HD.out) ?_; rintro x w' ⟨rfl, p3, rfl⟩)
        | (go_at_call 42; refine Calls.mono (length_any _ _ _ HT.out q1 (by omega) q3 q4) ?_; rintro x w' ⟨rfl, p4, rfl⟩)
        | (go_at_call 9; refine Calls.mono (Days_any _ _ _ _ HT.out) ?_; rintro x w' ⟨rfl, p5, rfl⟩))
      go_ret2
      exact ⟨ret_ii (by rw [HV.out, HM.out]) (by have := HG.out.2; rw [HM.out] at this; exact this), Drawn.drewN _ _⟩
    · have HM := Lib.hid (show min' d (len ((m + (12 * y - 1 + k)) / 12) ((m + (12 * y - 1 + k)) % 12 + 1)) = len ((m + (12 * y - 1 + k)) / 12) ((m + (12 * y - 1 + k)) % 12 + 1) from if_neg hmin)
      go_enter Tryd.func16, Tryd.ntmps16
      go_wp2_with (first
        | (go_at_call 10; refine Calls.mono (Date_any _ _ _ _ _ _ HT.out HD.out) ?_; rintro x w' ⟨rfl, p3, rfl⟩)
        | (go_at_call 42; refine Calls.mono (length_any _ _ _ HT.out q1 (by omega) q3 q4) ?_; rintro x w' ⟨rfl, p4, rfl⟩)
        | (go_at_call 9; refine Calls.mono (Days_any _ _ _ _ HT.out) ?_; rintro x w' ⟨rfl, p5, rfl⟩))
      go_ret2
      exact ⟨ret_ii (by rw [HV.out, HM.out]) (by have := HG.out.2; rw [HM.out] at this; exact this), Drawn.drewN _ _⟩

set_option maxHeartbeats 800000 in
theorem later_any (n k y m d e a f : Int) (w : World) (h : DateIs n y m d e) (hA : AddIs y m d e k a f) :
    Calls Tryd.prog 17 #[.int .i64 n, .int .i64 k] w fun x w' => x = .returned (.tuple #[.int .i64 a, .int .i64 f]) ∧ w = w' := by
  have HD := Lib.hid h
  rcases hA with ⟨h0, rfl, rfl⟩ | ⟨rfl, hk, rfl, rfl⟩ | ⟨rfl, k1, k2, ht, rfl, rfl⟩ | ⟨rfl, k1, k2, t1, t2, hv, rfl⟩
  · clear h
    go_enter Tryd.func17, Tryd.ntmps17
    go_wp2_with (go_at_call 13; refine Calls.mono (dateOf_any _ _ _ _ _ _ HD.out) ?_; rintro x w' ⟨rfl, rfl⟩)
    go_ret2
    exact ⟨rfl, rfl⟩
  · clear h
    rcases hk with hk | hk
    all_goals
      go_enter Tryd.func17, Tryd.ntmps17
      go_wp2_with (go_at_call 13; refine Calls.mono (dateOf_any _ _ _ _ _ _ HD.out) ?_; rintro x w' ⟨rfl, rfl⟩)
      all_goals
        go_ret2
        exact ⟨rfl, rfl⟩
  · obtain ⟨hd, y9⟩ := dateIs_good h rfl
    have y1 := hd.1
    have m1 := hd.2.1
    have m2 := hd.2.2.1
    clear h hd
    rcases ht with ht | ht
    all_goals
      go_enter Tryd.func17, Tryd.ntmps17
      go_wp2_with (go_at_call 13; refine Calls.mono (dateOf_any _ _ _ _ _ _ HD.out) ?_; rintro x w' ⟨rfl, rfl⟩)
      all_goals
        go_ret2
        exact ⟨rfl, rfl⟩
  · obtain ⟨hd, y9⟩ := dateIs_good h rfl
    have y1 := hd.1
    have m1 := hd.2.1
    have m2 := hd.2.2.1
    have d1 := hd.2.2.2.1
    have d2 : d ≤ 31 := by have := hd.2.2.2.2.1; have := len_bd y m; omega
    clear h hd
    have q1 : 1 ≤ (12 * (y - 1) + m - 1 + k) / 12 + 1 := by omega
    have q2 : (12 * (y - 1) + m - 1 + k) / 12 + 1 ≤ 9999 := by omega
    have q3 : 1 ≤ (12 * (y - 1) + m - 1 + k) % 12 + 1 := by omega
    have q4 : (12 * (y - 1) + m - 1 + k) % 12 + 1 ≤ 12 := by omega
    have HV := Lib.hid hv
    have HG := Lib.hid (min_day q1 q2 q3 q4 d1)
    clear hv
    obtain ⟨L, hL⟩ : ∃ L, L = len ((12 * (y - 1) + m - 1 + k) / 12 + 1) ((12 * (y - 1) + m - 1 + k) % 12 + 1) := ⟨_, rfl⟩
    have mb : 28 ≤ L := by rw [hL]; exact (len_bd _ _).1
    have HL := Lib.hid hL
    clear hL
    go_enter Tryd.func17, Tryd.ntmps17
    go_wp2_with (first
      | (go_at_call 13; refine Calls.mono (dateOf_any _ _ _ _ _ _ HD.out) ?_; rintro x w' ⟨rfl, rfl⟩))
    go_loop [8] (fun t => ∃ j : Int, 1 ≤ j ∧ j ≤ d ∧ min' d L ≤ j ∧ t = .int .i64 j) (fun t => (intOf t).toNat)
    case atStart => exact ⟨d, d1, by omega, by unfold min'; split <;> omega, rfl⟩
    case round =>
      obtain ⟨j, j1, j2, j3, rfl⟩ := hrel
      by_cases hj : L < j
      · have j4 : min' d L ≤ j - 1 := by unfold min'; split <;> omega
        clear j3
        go_wp2_with (go_at_call 15; refine Calls.mono (monthDays_any _ _ _ q1 (by omega) q3 q4) ?_; rintro x w' ⟨rfl, rfl⟩; rw [← HL.out])
        go_round
        case rel => exact ⟨j - 1, by omega, by omega, j4, rfl⟩
        case measure => simp [intOf]; omega
      · have HJ := Lib.hid (show j = min' d L from by unfold min' at *; split at j3 <;> (split <;> omega))
        clear j3
        go_wp2_with (first
          | (go_at_call 15; refine Calls.mono (monthDays_any _ _ _ q1 (by omega) q3 q4) ?_; rintro x w' ⟨rfl, rfl⟩; rw [← HL.out])
          | (go_at_call 12; refine Calls.mono (dayOf_any _ _ _ _) ?_; rintro x w' ⟨rfl, rfl⟩))
        go_ret2
        exact ⟨ret_ii (by rw [HV.out, addV, ← HL.out, ← HJ.out]) (by have := HG.out.2; rw [← HL.out, ← HJ.out] at this; exact this), rfl⟩
end Go.Proofs.YtdbipmidjdhjpaaDoor
