/- Contracts of the functions on days: the program's and the document's. -/
import Derived.Test.YtdbipmidjdhjpaaDoorBase
import Derived.Test.YtdbipmidjdhjpaaDoorCivilMath
namespace Go.Proofs.YtdbipmidjdhjpaaDoor
open Go.ChangeShapes Go.WideShapes Go.ChangeAt Go.RowKit Civ
set_option linter.unusedVariables false

/-- the table of the days before each month lies where it was laid -/
def Tab (w : World) : Prop := ∀ i, i < 13 → w.cell? ⟨0, i, none⟩ = some (.int .i64 (cumT.getD i 0))
theorem Tab.at {w : World} (h : Tab w) (m : Int) (h1 : 0 ≤ m) (h2 : m ≤ 12) : w.cell? ⟨0, m.toNat, none⟩ = some (.int .i64 (cumA m)) := h m.toNat (by omega)
theorem Tab.drewN {w : World} (h : Tab w) (q : Nat) : Tab (w.drewN q) := h
theorem lp_yes {y : Int} (h : lp y = true) : (y % 4 = 0 ∧ ¬ y % 100 = 0) ∨ y % 400 = 0 := by simpa [lp] using h
theorem lp_no {y : Int} (h : lp y = false) : (y % 4 = 0 → y % 100 = 0) ∧ ¬ y % 400 = 0 := by simpa [lp] using h

theorem long_any (y : Int) (w : World) (h1 : 1 ≤ y) (h2 : y ≤ 10000) : Calls Tryd.prog 44 #[.int .i64 y] w fun e w' => e = .returned (.bool (lp y)) ∧ w = w' := by
  cases hl : lp y with
  | true =>
    have hq := lp_yes hl
    clear hl
    go_enter Tryd.func44, Tryd.ntmps44
    go_wp2
    all_goals
      go_ret
      exact ⟨ret_bool (by first | rfl | (simp; omega)), rfl⟩
  | false =>
    obtain ⟨hq, hr⟩ := lp_no hl
    clear hl
    have HQ := Lib.hid hq
    clear hq
    go_enter Tryd.func44, Tryd.ntmps44
    go_wp2
    all_goals
      go_ret
      exact ⟨ret_bool (by first | rfl | (simp <;> (have := HQ.out; omega)) | (exfalso; have := HQ.out; omega)), rfl⟩
theorem longYear_any (y : Int) (w : World) (h1 : 1 ≤ y) (h2 : y ≤ 10000) : Calls Tryd.prog 45 #[.int .i64 y] w fun e w' => e = .returned (.bool (lp y)) ∧ w = w' := by
  cases hl : lp y with
  | true =>
    have HQ := Lib.hid (lp_yes hl)
    clear hl
    go_enter Tryd.func45, Tryd.ntmps45
    go_wp2
    all_goals
      go_ret
      exact ⟨ret_bool (by first | rfl | (have h4 : (y % 400 == 0) = false := (by assumption); have q := HQ.out; simp at h4 ⊢; omega)), rfl⟩
  | false =>
    obtain ⟨hq, hr⟩ := lp_no hl
    clear hl
    have HQ := Lib.hid hq
    clear hq
    go_enter Tryd.func45, Tryd.ntmps45
    go_wp2
    all_goals
      go_ret
      exact ⟨ret_bool (by first | rfl | (have h4 : (y % 400 == 0) = false := (by assumption); have q := HQ.out; simp at h4 ⊢; omega)), rfl⟩
theorem before_any (y : Int) (w : World) (h1 : 1 ≤ y) (h2 : y ≤ 10000) : Calls Tryd.prog 43 #[.int .i64 y] w fun e w' => e = .returned (.int .i64 (bef y)) ∧ w = w' := by
  go_enter Tryd.func43, Tryd.ntmps43
  go_wp2
  go_ret
  exact ⟨rfl, rfl⟩

theorem len_feb {y : Int} (h : lp y = true) : len y 2 = 29 := by simp [len, lpi, h]
theorem length_any (y m : Int) (w : World) (hT : Tab w) (h1 : 1 ≤ y) (h2 : y ≤ 10000) (h3 : 1 ≤ m) (h4 : m ≤ 12) :
    Calls Tryd.prog 42 #[.int .i64 y, .int .i64 m] w fun e w' => e = .returned (.int .i64 (len y m)) ∧ Drawn w w' := by
  by_cases hm : m = 2 ∧ lp y = true
  · obtain ⟨rfl, hl⟩ := hm
    have HL := Lib.hid (len_feb hl)
    go_enter Tryd.func42, Tryd.ntmps42
    go_wp2_with (go_at_call 44; refine (long_any _ _ h1 h2).mono ?_; rintro e w' ⟨rfl, rfl⟩)
    go_ret
    exact ⟨ret_int HL.out.symm, Drawn.refl _⟩
  · by_cases h12 : m = 12
    · subst h12
      have HL := Lib.hid (show len y 12 = 31 from by simp [len])
      clear hm
      go_enter Tryd.func42, Tryd.ntmps42
      go_wp2_with (go_at_call 44; refine (long_any _ _ h1 h2).mono ?_; rintro e w' ⟨rfl, rfl⟩)
      go_ret
      exact ⟨ret_int HL.out.symm, Drawn.refl _⟩
    · have HD := Lib.hid (cumA_diff y h3 (by omega) hm)
      have b1 := cumA_bd h3 h4
      have b2 := cumA_bd (m := m + 1) (by omega) (by omega)
      have c1 := hT.at m (by omega) h4
      have c2 := hT.at (m + 1) (by omega) (by omega)
      have h5 : m ≤ 11 := by omega
      have w1 : IntKind.i64.wrap (m + 1) = m + 1 := IntWalk.i64_in _ (by omega)
      have w2 : IntKind.i64.wrap (cumA (m + 1) - cumA m) = cumA (m + 1) - cumA m := IntWalk.i64_in _ (by omega)
      have i1 : (0 : Int) ≤ m := by omega
      have i2 : m < (13 : Int) := by omega
      have i3 : (0 : Int) ≤ m + 1 := by omega
      have i4 : m + 1 < (13 : Int) := by omega
      have e12 : (m == 12) = false := by simp; omega
      by_cases hm2 : m = 2
      · have hl : lp y = false := by simpa [hm2] using hm
        have c3 : w.cell? ⟨0, 2, none⟩ = some (.int .i64 31) := hT 2 (by omega)
        have c4 : w.cell? ⟨0, 3, none⟩ = some (.int .i64 59) := hT 3 (by omega)
        have HE := Lib.hid (show (28 : Int) = len y 2 from by simp [len, lpi, hl])
        subst hm2
        clear c1 c2 b1 b2 w1 w2 i1 i2 i3 i4 HD
        clear hm h12 h5
        go_enter Tryd.func42, Tryd.ntmps42
        go_wp2_with (go_at_call 44; refine (long_any _ _ h1 h2).mono ?_; rintro e w' ⟨rfl, rfl⟩)
        go_quiet (fail)
        go_wp2
        go_ret
        exact ⟨ret_int HE.out, Drawn.drewN _ _⟩
      · have e2 : (m == 2) = false := by simpa using hm2
        clear hm h12
        go_enter Tryd.func42, Tryd.ntmps42
        go_wp2_with (go_at_call 44; refine (long_any _ _ h1 h2).mono ?_; rintro e w' ⟨rfl, rfl⟩)
        go_quiet (fail)
        go_wp2
        go_ret
        exact ⟨ret_int HD.out, Drawn.drewN _ _⟩

/-- what is wrong with a year and a month -/
def goodB (y m : Int) : Bool := decide (1 ≤ y ∧ y ≤ 9999 ∧ 1 ≤ m ∧ m ≤ 12)
theorem goodB_yes {y m : Int} (h : goodB y m = true) : 1 ≤ y ∧ y ≤ 9999 ∧ 1 ≤ m ∧ m ≤ 12 := by simpa [goodB] using h
theorem goodB_no {y m : Int} (h : goodB y m = false) : y < 1 ∨ 9999 < y ∨ m < 1 ∨ 12 < m := by simp [goodB] at h; omega
def lenV (y m : Int) : Int := if goodB y m then len y m else 0
def lenE (y m : Int) : Int := if goodB y m then 0 else 4

theorem Length_any (y m : Int) (w : World) (hT : Tab w) :
    Calls Tryd.prog 8 #[.int .i64 y, .int .i64 m] w fun e w' => e = .returned (.tuple #[.int .i64 (lenV y m), .int .i64 (lenE y m)]) ∧ Drawn w w' := by
  cases hg : goodB y m with
  | true =>
    obtain ⟨h1, h2, h3, h4⟩ := goodB_yes hg
    have HV := Lib.hid (show lenV y m = len y m ∧ lenE y m = 0 from by simp [lenV, lenE, hg])
    have HT := Lib.hid hT
    clear hg hT
    go_enter Tryd.func8, Tryd.ntmps8
    go_wp2_with (go_at_call 42; refine (length_any _ _ _ HT.out h1 (by omega) h3 h4).mono ?_; rintro e w' ⟨rfl, q, rfl⟩)
    go_ret2
    exact ⟨ret_ii HV.out.1.symm HV.out.2.symm, Drawn.drewN _ _⟩
  | false =>
    have HV := Lib.hid (show lenV y m = 0 ∧ lenE y m = 4 from by simp [lenV, lenE, hg])
    have HG := Lib.hid (goodB_no hg)
    clear hg hT
    go_enter Tryd.func8, Tryd.ntmps8
    go_wp2_with fail
    all_goals first | (exfalso; have := HG.out; omega) | (go_ret2; exact ⟨ret_ii HV.out.1.symm HV.out.2.symm, Drawn.refl _⟩)

/-- may d be a day of the month m of the year y? -/
def dateB (y m d : Int) : Bool := goodB y m && decide (1 ≤ d ∧ d ≤ len y m)
def dayN (y m d : Int) : Int := bef y + cumL y m + d - 1
def dayV (y m d : Int) : Int := if dateB y m d then dayN y m d else 0
def dayE (y m d : Int) : Int := if dateB y m d then 0 else 4
theorem dateB_yes {y m d : Int} (h : dateB y m d = true) : goodB y m = true ∧ 1 ≤ d ∧ d ≤ len y m := by simpa [dateB] using h
theorem dateB_bad {y m d : Int} (h : goodB y m = false) : dateB y m d = false := by simp [dateB, h]
theorem dateB_no {y m d : Int} (h : dateB y m d = false) (hg : goodB y m = true) : d < 1 ∨ len y m < d := by simp [dateB, hg] at h; omega
theorem dayN_bd {y m d : Int} (h : dateB y m d = true) : 0 ≤ dayN y m d ∧ dayN y m d ≤ 3652058 := by
  obtain ⟨hg, h1, h2⟩ := dateB_yes h
  obtain ⟨g1, g2, g3, g4⟩ := goodB_yes hg
  have a := bef_bd g1 (by omega)
  have b := cumL_bd y g3 g4
  have c := cumL_le_year y g3 g4
  have d := bef_succ g1
  have e := bef_mono (a := y + 1) (b := 10000) (by omega) (by omega)
  have f := bef_top
  unfold dayN
  omega
set_option maxHeartbeats 1000000 in
theorem Days_any (y m d : Int) (w : World) (hT : Tab w) :
    Calls Tryd.prog 9 #[.int .i64 y, .int .i64 m, .int .i64 d] w fun e w' => e = .returned (.tuple #[.int .i64 (dayV y m d), .int .i64 (dayE y m d)]) ∧ Drawn w w' := by
  cases hg : goodB y m with
  | false =>
    have HV := Lib.hid (show dayV y m d = 0 ∧ dayE y m d = 4 from by simp [dayV, dayE, dateB, hg])
    have HL := Lib.hid (show lenV y m = 0 ∧ lenE y m = 4 from by simp [lenV, lenE, hg])
    have HT := Lib.hid hT
    clear hg hT
    go_enter Tryd.func9, Tryd.ntmps9
    go_wp2_with (go_at_call 8; refine (Length_any _ _ _ HT.out).mono ?_; rintro e w' ⟨rfl, q, rfl⟩; rw [HL.out.1, HL.out.2])
    go_ret2
    exact ⟨ret_ii HV.out.1.symm HV.out.2.symm, Drawn.drewN _ _⟩
  | true =>
    have HL := Lib.hid (show lenV y m = len y m ∧ lenE y m = 0 from by simp [lenV, lenE, hg])
    obtain ⟨g1, g2, g3, g4⟩ := goodB_yes hg
    have lb := len_bd y m
    cases hd : dateB y m d with
    | false =>
      have HV := Lib.hid (show dayV y m d = 0 ∧ dayE y m d = 4 from by simp [dayV, dayE, hd])
      have HN := dateB_no hd hg
      have HT := Lib.hid hT
      clear hg hT hd
      rcases HN with hn | hn
      all_goals
        go_enter Tryd.func9, Tryd.ntmps9
        go_wp2_with (go_at_call 8; refine (Length_any _ _ _ HT.out).mono ?_; rintro e w' ⟨rfl, q, rfl⟩; rw [HL.out.1, HL.out.2])
        all_goals
          go_ret2
          exact ⟨ret_ii HV.out.1.symm HV.out.2.symm, Drawn.drewN _ _⟩
    | true =>
      have HV := Lib.hid (show dayV y m d = dayN y m d ∧ dayE y m d = 0 from by simp [dayV, dayE, hd])
      obtain ⟨_, d1, d2⟩ := dateB_yes hd
      have bb := bef_bd g1 (by omega)
      have cb := cumA_bd g3 g4
      have c1 := hT.at m (by omega) g4
      have i2 : m < (13 : Int) := by omega
      have i1 : (0 : Int) ≤ m := by omega
      have HT := Lib.hid hT
      clear hg hT hd
      have s1 : IntKind.i64.wrap (bef y + cumA m) = bef y + cumA m := IntWalk.i64_in _ (by omega)
      have s2 : IntKind.i64.wrap (bef y + cumA m + d) = bef y + cumA m + d := IntWalk.i64_in _ (by omega)
      have s3 : IntKind.i64.wrap (bef y + cumA m + d - 1) = bef y + cumA m + d - 1 := IntWalk.i64_in _ (by omega)
      go_enter Tryd.func9, Tryd.ntmps9
      go_wp2_with (go_at_call 8; refine (Length_any _ _ _ HT.out).mono ?_; rintro e w' ⟨rfl, q, rfl⟩; rw [HL.out.1, HL.out.2])
      go_quiet ((go_at_call 43; first | exact quiet_left (before_any _ _ g1 (by omega)) | exact quiet_add_left (before_any _ _ g1 (by omega))))
      by_cases hm : 2 < m
      · have HC := Lib.hid (show cumL y m = cumA m + lpi y from by simp [cumL, hm])
        cases hl : lp y with
        | true =>
          have HI := Lib.hid (show lpi y = 1 from by simp [lpi, hl])
          go_wp2_with (go_at_call 44; refine (long_any _ _ g1 (by omega)).mono ?_; rintro e w' ⟨rfl, rfl⟩; rw [hl])
          go_ret2
          exact ⟨ret_ii (by rw [HV.out.1, dayN, HC.out, HI.out]; omega) HV.out.2.symm, Drawn.drewN _ _⟩
        | false =>
          have HI := Lib.hid (show lpi y = 0 from by simp [lpi, hl])
          go_wp2_with (go_at_call 44; refine (long_any _ _ g1 (by omega)).mono ?_; rintro e w' ⟨rfl, rfl⟩; rw [hl])
          go_ret2
          exact ⟨ret_ii (by rw [HV.out.1, dayN, HC.out, HI.out]; omega) HV.out.2.symm, Drawn.drewN _ _⟩
      · have HC := Lib.hid (show cumL y m = cumA m from by simp [cumL, hm])
        go_wp2_with (go_at_call 44; refine (long_any _ _ g1 (by omega)).mono ?_; rintro e w' ⟨rfl, rfl⟩)
        go_ret2
        exact ⟨ret_ii (by rw [HV.out.1, dayN, HC.out]) HV.out.2.symm, Drawn.drewN _ _⟩
end Go.Proofs.YtdbipmidjdhjpaaDoor
