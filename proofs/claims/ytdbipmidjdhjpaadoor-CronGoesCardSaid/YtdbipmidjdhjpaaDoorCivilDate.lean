/- Contracts: the date of a day, the day of a week; the program's and the document's. -/
import Derived.Test.YtdbipmidjdhjpaaDoorCivilRef
namespace Go.Proofs.YtdbipmidjdhjpaaDoor
open Go.ChangeShapes Go.WideShapes Go.ChangeAt Go.RowKit Civ
set_option linter.unusedVariables false

/-- what the date of a day tells -/
def DateIs (n y m d e : Int) : Prop := (0 ≤ n ∧ n ≤ 3652058 ∧ IsDate n y m d ∧ e = 0) ∨ ((n < 0 ∨ 3652058 < n) ∧ y = 0 ∧ m = 0 ∧ d = 0 ∧ e = 4)
theorem dateIs_ex (n : Int) : ∃ y m d e, DateIs n y m d e := by
  by_cases h : 0 ≤ n ∧ n ≤ 3652058
  · obtain ⟨y, m, d, hd⟩ := isDate_ex h.1
    exact ⟨y, m, d, 0, .inl ⟨h.1, h.2, hd, rfl⟩⟩
  · exact ⟨0, 0, 0, 4, .inr ⟨by omega, rfl, rfl, rfl, rfl⟩⟩
theorem start_le {n y m d : Int} (h : IsDate n y m d) (hn : 0 ≤ n) : n / 366 + 1 ≤ y := by
  have h1 := h.year.2
  have h2 := h.1
  have : bef (y + 1) ≤ 366 * y := by unfold bef; omega
  omega
theorem month_in {n y m d : Int} (h : IsDate n y m d) {k : Int} (k1 : 1 ≤ k) (k2 : k ≤ m) : cumL y k ≤ n - bef y ∧ (k < m → len y k ≤ n - bef y - cumL y k) ∧ (k = m → n - bef y - cumL y k < len y k) ∧ n - bef y - cumL y k ≤ 366 := by
  obtain ⟨h1, h2, h3, h4, h5, rfl⟩ := h
  have l := cumL_bd y k1 (by omega)
  have l2 := cumL_bd y h2 h3
  have lm := len_bd y m
  have lk := len_bd y k
  by_cases e : k = m
  · subst e; omega
  · have := cumL_mono y k1 (show k < m from by omega) h3
    omega
theorem isDate_day {n y m d : Int} (h : IsDate n y m d) : n - bef y - cumL y m + 1 = d := by
  obtain ⟨h1, h2, h3, h4, h5, rfl⟩ := h; omega

set_option maxHeartbeats 2000000 in
theorem Date_any (n y m d e : Int) (w : World) (hT : Tab w) (h : DateIs n y m d e) :
    Calls Tryd.prog 10 #[.int .i64 n] w fun x w' => x = .returned (.tuple #[.int .i64 y, .int .i64 m, .int .i64 d, .int .i64 e]) ∧ Drawn w w' := by
  have HT := Lib.hid hT
  clear hT
  rcases h with ⟨n1, n2, hd, rfl⟩ | ⟨hn, rfl, rfl, rfl, rfl⟩
  · have y1 := hd.1
    have y9 := hd.top n2
    have ys := start_le hd n1
    have HY := Lib.hid hd.year
    have HD := Lib.hid hd
    have m1 := hd.2.1
    have m2 := hd.2.2.1
    have bb := bef_bd y1 (by omega)
    have by1 := hd.year.1
    clear hd
    go_enter Tryd.func10, Tryd.ntmps10
    go_wp2_with fail
    go_loop [2] (fun t => ∃ j : Int, 1 ≤ j ∧ j ≤ y ∧ t = .int .i64 j) (fun t => (y - intOf t).toNat)
    case atStart => exact ⟨n / 366 + 1, by omega, ys, rfl⟩
    case round =>
      obtain ⟨j, j1, j2, rfl⟩ := hrel
      by_cases hlt : j < y
      · have hb := HD.out.below j1 hlt
        go_wp2_with (go_at_call 43; refine (before_any _ _ (by omega) (by omega)).mono ?_; rintro x w' ⟨rfl, rfl⟩)
        go_round
        case rel => exact ⟨j + 1, by omega, by omega, rfl⟩
        case measure => simp [intOf]; omega
      · obtain rfl : j = y := by omega
        have hb := HY.out.2
        go_wp2_with (first | (go_at_call 43; refine (before_any _ _ (by omega) (by omega)).mono ?_; rintro x w' ⟨rfl, rfl⟩))
        go_loopw [0, 3] (fun r k wr => ∃ i : Int, 1 ≤ i ∧ i ≤ m ∧ k = .int .i64 i ∧ r = .int .i64 (n - bef j - cumL j i) ∧ Drawn w wr) (fun _ k _ => (m - intOf k).toNat)
        case atStart => exact ⟨1, by omega, by omega, rfl, by rw [cumL_one, Int.sub_zero], Drawn.refl _⟩
        case round =>
          obtain ⟨i, i1, i2, rfl, rfl, q, rfl⟩ := hrel
          obtain ⟨c1, c2, c3, c4⟩ := month_in HD.out i1 i2
          have C2 := Lib.hid c2
          have C3 := Lib.hid c3
          clear c2 c3
          have lb := len_bd j i
          by_cases him : i < m
          · have g := C2.out him
            have CS := Lib.hid (cumL_succ j i1 (by omega))
            go_wp2_with (go_at_call 42; refine Calls.mono (length_any j i _ HT.out y1 (by omega) i1 (by omega)) ?_; rintro x w' ⟨rfl, p, rfl⟩)
            go_roundw
            case rel => exact ⟨i + 1, by omega, by omega, rfl, by rw [CS.out]; congr 1; omega, Drawn.drewN _ _⟩
            case measure => simp [intOf]; omega
          · obtain rfl : i = m := by omega
            have g := C3.out rfl
            go_wp2_with (go_at_call 42; refine Calls.mono (length_any j i _ HT.out y1 (by omega) i1 (by omega)) ?_; rintro x w' ⟨rfl, p, rfl⟩)
            refine bodyPost_ret (results_tmp4 rfl _ _ _) rfl ?_
            exact ⟨ret_4i rfl rfl (isDate_day HD.out) rfl, Drawn.drewN _ _⟩
  · rcases hn with hn | hn
    all_goals
      go_enter Tryd.func10, Tryd.ntmps10
      go_wp2_with fail
      all_goals
        refine bodyPost_ret (results_tmp4 rfl _ _ _) rfl ?_
        exact ⟨ret_4i rfl rfl rfl rfl, Drawn.refl _⟩

/-- what the day of a week tells -/
def weekV (n : Int) : Int := if 0 ≤ n ∧ n ≤ 3652058 then (n + 1) % 7 else 0
def weekE (n : Int) : Int := if 0 ≤ n ∧ n ≤ 3652058 then 0 else 4
theorem Weekday_any (n : Int) (w : World) :
    Calls Tryd.prog 11 #[.int .i64 n] w fun x w' => x = .returned (.tuple #[.int .i64 (weekV n), .int .i64 (weekE n)]) ∧ w = w' := by
  by_cases h : 0 ≤ n ∧ n ≤ 3652058
  · have HV := Lib.hid (show weekV n = (n + 1) % 7 ∧ weekE n = 0 from by simp [weekV, weekE, h])
    obtain ⟨h1, h2⟩ := h
    go_enter Tryd.func11, Tryd.ntmps11
    go_wp2
    go_ret2
    exact ⟨ret_ii HV.out.1.symm HV.out.2.symm, rfl⟩
  · have HV := Lib.hid (show weekV n = 0 ∧ weekE n = 4 from by simp [weekV, weekE, h])
    have hn : n < 0 ∨ 3652058 < n := by omega
    clear h
    rcases hn with hn | hn
    all_goals
      go_enter Tryd.func11, Tryd.ntmps11
      go_wp2
      all_goals
        go_ret2
        exact ⟨ret_ii HV.out.1.symm HV.out.2.symm, rfl⟩

/-- the first day of a year, of a month -/
theorem first_year {y : Int} (h1 : 1 ≤ y) (h2 : y ≤ 9999) : dayV y 1 1 = bef y := by
  have := len_bd y 1
  have hd : dateB y 1 1 = true := by simp [dateB, goodB]; omega
  simp only [dayV, hd, if_true, dayN, cumL_one]; omega
theorem first_month {y m : Int} (h1 : 1 ≤ y) (h2 : y ≤ 9999) (h3 : 1 ≤ m) (h4 : m ≤ 12) : dayV y m 1 = bef y + cumL y m := by
  have := len_bd y m
  have hd : dateB y m 1 = true := by simp [dateB, goodB]; omega
  simp only [dayV, hd, if_true, dayN]; omega

set_option maxHeartbeats 2000000 in
theorem dateOf_any (n y m d e : Int) (w : World) (h : DateIs n y m d e) :
    Calls Tryd.prog 13 #[.int .i64 n] w fun x w' => x = .returned (.tuple #[.int .i64 y, .int .i64 m, .int .i64 d, .int .i64 e]) ∧ w = w' := by
  rcases h with ⟨n1, n2, hd, rfl⟩ | ⟨hn, rfl, rfl, rfl, rfl⟩
  · have y1 := hd.1
    have y9 := hd.top n2
    have m1 := hd.2.1
    have m2 := hd.2.2.1
    have HD := Lib.hid hd
    have bb := bef_bd y1 (by omega)
    have by1 := hd.year.1
    clear hd
    go_enter Tryd.func13, Tryd.ntmps13
    go_wp2_with fail
    go_loop [6, 7] (fun a b => ∃ i j : Int, 1 ≤ i ∧ i ≤ y ∧ y < j ∧ j ≤ 10000 ∧ a = .int .i64 i ∧ b = .int .i64 j) (fun a b => (intOf b - intOf a).toNat)
    case atStart => exact ⟨1, 10000, by omega, by omega, by omega, by omega, rfl, rfl⟩
    case round =>
      obtain ⟨i, j, i1, i2, j1, j2, rfl, rfl⟩ := hrel
      by_cases hlt : 1 < j - i
      · have k1 : i < (i + j) / 2 := by omega
        have k2 : (i + j) / 2 < j := by omega
        have HF := Lib.hid (first_year (y := (i + j) / 2) (by omega) (by omega))
        have kb := bef_bd (y := (i + j) / 2) (by omega) (by omega)
        by_cases hk : (i + j) / 2 ≤ y
        · have hle : bef ((i + j) / 2) ≤ n := by have := bef_mono (a := (i + j) / 2) (b := y) (by omega) hk; omega
          go_wp2_with (go_at_call 12; refine (dayOf_any _ _ _ _).mono ?_; rintro x w' ⟨rfl, rfl⟩; rw [HF.out])
          go_round
          case rel => exact ⟨(i + j) / 2, j, by omega, by omega, by omega, by omega, rfl, rfl⟩
          case measure => simp [intOf]; omega
        · have hgt : n < bef ((i + j) / 2) := HD.out.above (by omega)
          go_wp2_with (go_at_call 12; refine (dayOf_any _ _ _ _).mono ?_; rintro x w' ⟨rfl, rfl⟩; rw [HF.out])
          go_round
          case rel => exact ⟨i, (i + j) / 2, by omega, by omega, by omega, by omega, rfl, rfl⟩
          case measure => simp [intOf]; omega
      · obtain rfl : i = y := by omega
        go_wp2_with fail
        go_loop [11] (fun k => ∃ p : Int, m ≤ p ∧ p ≤ 12 ∧ k = .int .i64 p) (fun k => (intOf k).toNat)
        case atStart => exact ⟨12, by omega, by omega, rfl⟩
        case round =>
          obtain ⟨p, p1, p2, rfl⟩ := hrel
          have HF := Lib.hid (first_month (y := i) (m := p) (by omega) (by omega) (by omega) (by omega))
          have kb := cumL_bd i (m := p) (by omega) (by omega)
          by_cases hp : p = m
          · subst hp
            obtain ⟨c1, c2, c3, c4⟩ := month_in HD.out m1 (by omega)
            have C2 := Lib.hid c2
            have C3 := Lib.hid c3
            clear c2 c3
            have c1' : bef i + cumL i p ≤ n := by omega
            go_wp2_with (go_at_call 12; refine (dayOf_any _ _ _ _).mono ?_; rintro x w' ⟨rfl, rfl⟩; rw [HF.out])
            refine bodyPost_ret (results_tmp4 rfl _ _ _) rfl ?_
            exact ⟨ret_4i rfl rfl (by have := (isDate_day HD.out); omega) rfl, rfl⟩
          · have hlt2 : n < bef i + cumL i p := by
              have a := cumL_mono i m1 (show m < p from by omega) (by omega)
              obtain ⟨c1, c2, c3, c4⟩ := month_in HD.out m1 (show m ≤ m from by omega)
              have := c3 rfl
              omega
            go_wp2_with (go_at_call 12; refine (dayOf_any _ _ _ _).mono ?_; rintro x w' ⟨rfl, rfl⟩; rw [HF.out])
            go_round
            case rel => exact ⟨p - 1, by omega, by omega, rfl⟩
            case measure => simp [intOf]; omega
  · rcases hn with hn | hn
    all_goals
      go_enter Tryd.func13, Tryd.ntmps13
      go_wp2_with fail
      all_goals
        refine bodyPost_ret (results_tmp4 rfl _ _ _) rfl ?_
        exact ⟨ret_4i rfl rfl rfl rfl, rfl⟩
end Go.Proofs.YtdbipmidjdhjpaaDoor
