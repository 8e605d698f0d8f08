/- Days, months and years, plain: no program in sight. -/
import Derived.Lib.Hide
namespace Go.Proofs.YtdbipmidjdhjpaaDoor.Civ
set_option linter.unusedVariables false

def lp (y : Int) : Bool := (y % 4 == 0 && y % 100 != 0) || y % 400 == 0
def lpi (y : Int) : Int := if lp y = true then 1 else 0
theorem lpi_bd (y : Int) : 0 ≤ lpi y ∧ lpi y ≤ 1 := by unfold lpi; split <;> omega
def bef (y : Int) : Int := 365 * (y - 1) + (y - 1) / 4 - (y - 1) / 100 + (y - 1) / 400
theorem bef_mono {a b : Int} (h1 : 1 ≤ a) (h : a ≤ b) : bef a ≤ bef b := by unfold bef; omega
theorem bef_succ {y : Int} (h : 1 ≤ y) : bef (y + 1) = bef y + 365 + lpi y := by
  have e : lp y = true ↔ (y % 4 = 0 ∧ ¬ y % 100 = 0) ∨ y % 400 = 0 := by simp [lp]
  unfold lpi
  by_cases hl : (y % 4 = 0 ∧ ¬ y % 100 = 0) ∨ y % 400 = 0
  · rw [if_pos (e.2 hl)]; unfold bef; omega
  · rw [if_neg (fun h => hl (e.1 h))]; unfold bef; omega
theorem bef_bd {y : Int} (h1 : 1 ≤ y) (h2 : y ≤ 10000) : 0 ≤ bef y ∧ bef y ≤ 3652059 := by unfold bef; omega
theorem bef_one : bef 1 = 0 := by unfold bef; omega
theorem bef_top : bef 10000 = 3652059 := by unfold bef; omega

def cumT : List Int := [0, 0, 31, 59, 90, 120, 151, 181, 212, 243, 273, 304, 334]
def cumA (m : Int) : Int := cumT.getD m.toNat 0
theorem months {m : Int} (h1 : 1 ≤ m) (h2 : m ≤ 12) : m = 1 ∨ m = 2 ∨ m = 3 ∨ m = 4 ∨ m = 5 ∨ m = 6 ∨ m = 7 ∨ m = 8 ∨ m = 9 ∨ m = 10 ∨ m = 11 ∨ m = 12 := by omega
theorem cumA_bd {m : Int} (h1 : 1 ≤ m) (h2 : m ≤ 12) : 0 ≤ cumA m ∧ cumA m ≤ 334 := by
  rcases months h1 h2 with rfl | rfl | rfl | rfl | rfl | rfl | rfl | rfl | rfl | rfl | rfl | rfl <;> decide
/-- the length of a month -/
def len (y m : Int) : Int := if m = 2 then 28 + lpi y else if m = 4 ∨ m = 6 ∨ m = 9 ∨ m = 11 then 30 else 31
theorem len_bd (y m : Int) : 28 ≤ len y m ∧ len y m ≤ 31 := by
  have := lpi_bd y
  unfold len; split
  · omega
  · split <;> omega
/-- the days of a year before a month -/
def cumL (y m : Int) : Int := cumA m + if 2 < m then lpi y else 0
theorem cumL_one (y : Int) : cumL y 1 = 0 := by simp [cumL, cumA, cumT]
theorem cumL_bd (y : Int) {m : Int} (h1 : 1 ≤ m) (h2 : m ≤ 12) : 0 ≤ cumL y m ∧ cumL y m ≤ 335 := by
  have := cumA_bd h1 h2
  have := lpi_bd y
  unfold cumL; split <;> omega
theorem cumL_succ (y : Int) {m : Int} (h1 : 1 ≤ m) (h2 : m ≤ 11) : cumL y (m + 1) = cumL y m + len y m := by
  rcases months h1 (by omega) with rfl | rfl | rfl | rfl | rfl | rfl | rfl | rfl | rfl | rfl | rfl | rfl <;> first | omega | (simp [cumL, cumA, cumT, len]; omega) | simp [cumL, cumA, cumT, len]
theorem cumL_last (y : Int) : cumL y 12 + 31 = 365 + lpi y := by simp [cumL, cumA, cumT]; omega
theorem cumA_diff (y : Int) {m : Int} (h1 : 1 ≤ m) (h2 : m ≤ 11) (h3 : ¬ (m = 2 ∧ lp y = true)) : cumA (m + 1) - cumA m = len y m := by
  rcases months h1 (by omega) with rfl | rfl | rfl | rfl | rfl | rfl | rfl | rfl | rfl | rfl | rfl | rfl <;> first | omega | (simp [cumA, cumT, len, lpi] at *; simp [h3]) | (simp [cumA, cumT, len])

/-- day n is the day d of the month m of the year y -/
def IsDate (n y m d : Int) : Prop := 1 ≤ y ∧ 1 ≤ m ∧ m ≤ 12 ∧ 1 ≤ d ∧ d ≤ len y m ∧ n = bef y + cumL y m + d - 1
theorem cumL_le_year (y : Int) {m : Int} (h1 : 1 ≤ m) (h2 : m ≤ 12) : cumL y m + len y m ≤ 365 + lpi y := by
  have hl := cumL_last y
  have h12 : len y 12 = 31 := by simp [len]
  have key : ∀ (j : Nat) (m : Int), 1 ≤ m → m + j = 12 → cumL y m + len y m ≤ 365 + lpi y := by
    intro j
    induction j with
    | zero => intro m h1 h2; obtain rfl : m = 12 := by omega
              omega
    | succ j ih =>
      intro m h1 h2
      have := ih (m + 1) (by omega) (by omega)
      have h3 := cumL_succ y h1 (by omega)
      have := len_bd y (m + 1)
      omega
  exact key (12 - m).toNat m h1 (by omega)
theorem IsDate.year {n y m d : Int} (h : IsDate n y m d) : bef y ≤ n ∧ n < bef (y + 1) := by
  obtain ⟨h1, h2, h3, h4, h5, rfl⟩ := h
  have := cumL_bd y h2 h3
  have := cumL_le_year y h2 h3
  have := bef_succ h1
  omega
theorem isDate_zero : IsDate 0 1 1 1 := by
  refine ⟨by omega, by omega, by omega, by omega, ?_, ?_⟩
  · have := len_bd 1 1; omega
  · rw [bef_one, cumL_one]; omega
theorem IsDate.succ {n y m d : Int} (h : IsDate n y m d) : ∃ y' m' d', IsDate (n + 1) y' m' d' := by
  obtain ⟨h1, h2, h3, h4, h5, rfl⟩ := h
  by_cases hd : d < len y m
  · exact ⟨y, m, d + 1, h1, h2, h3, by omega, by omega, by omega⟩
  · by_cases hm : m ≤ 11
    · have := cumL_succ y h2 hm
      have := len_bd y (m + 1)
      exact ⟨y, m + 1, 1, h1, by omega, by omega, by omega, by omega, by omega⟩
    · obtain rfl : m = 12 := by omega
      have := cumL_last y
      have := bef_succ h1
      have h12 : len y 12 = 31 := by simp [len]
      have := len_bd (y + 1) 1
      have := cumL_one (y + 1)
      exact ⟨y + 1, 1, 1, by omega, by omega, by omega, by omega, by omega, by omega⟩
theorem isDate_nat (k : Nat) : ∃ y m d, IsDate k y m d := by
  induction k with
  | zero => exact ⟨1, 1, 1, isDate_zero⟩
  | succ k ih =>
    obtain ⟨y, m, d, h⟩ := ih
    obtain ⟨y', m', d', h'⟩ := h.succ
    exact ⟨y', m', d', by simpa using h'⟩
theorem isDate_ex {n : Int} (h : 0 ≤ n) : ∃ y m d, IsDate n y m d := by
  obtain ⟨k, rfl⟩ := Int.eq_ofNat_of_zero_le h
  exact isDate_nat k
theorem IsDate.top {n y m d : Int} (h : IsDate n y m d) (hn : n ≤ 3652058) : y ≤ 9999 := by
  by_cases hy : y ≤ 9999
  · exact hy
  · have h1 := h.year.1
    have h2 := bef_mono (a := 10000) (b := y) (by omega) (by omega)
    have := bef_top
    omega
/-- a year below the day's year ends before it -/
theorem IsDate.below {n y m d t : Int} (h : IsDate n y m d) (ht : 1 ≤ t) (hlt : t < y) : bef (t + 1) ≤ n := by
  have := h.year.1
  have := bef_mono (a := t + 1) (b := y) (by omega) (by omega)
  omega
theorem IsDate.above {n y m d t : Int} (h : IsDate n y m d) (hlt : y < t) : n < bef t := by
  have := h.year.2
  have := bef_mono (a := y + 1) (b := t) (by have := h.1; omega) (by omega)
  omega
theorem cumL_mono (y : Int) {a b : Int} (h1 : 1 ≤ a) (h : a < b) (h2 : b ≤ 12) : cumL y a + len y a ≤ cumL y b := by
  have key : ∀ (j : Nat) (a b : Int), 1 ≤ a → a + 1 + j = b → b ≤ 12 → cumL y a + len y a ≤ cumL y b := by
    intro j
    induction j with
    | zero =>
      intro a b h1 h2 h3
      have := cumL_succ y h1 (by omega)
      obtain rfl : b = a + 1 := by omega
      omega
    | succ j ih =>
      intro a b h1 h2 h3
      have h4 := ih a (b - 1) h1 (by omega) (by omega)
      have h5 := cumL_succ y (m := b - 1) (by omega) (by omega)
      have := len_bd y (b - 1)
      rw [show b - 1 + 1 = b from by omega] at h5
      omega
  exact key (b - a - 1).toNat a b h1 (by omega) h2
end Go.Proofs.YtdbipmidjdhjpaaDoor.Civ
