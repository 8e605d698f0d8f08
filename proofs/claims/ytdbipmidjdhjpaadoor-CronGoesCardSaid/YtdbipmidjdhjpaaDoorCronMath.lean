/- Plain facts: which days and minutes a cron names; after 146097 days all days come again. -/
import Derived.Test.YtdbipmidjdhjpaaDoorCronRef
namespace Go.Proofs.YtdbipmidjdhjpaaDoor
open Civ
set_option linter.unusedVariables false
theorem Civ.IsDate.uniq {n y m d y' m' d' : Int} (h : IsDate n y m d) (h' : IsDate n y' m' d') : y = y' ∧ m = m' ∧ d = d' := by
  have hy : y = y' := by
    rcases Int.lt_trichotomy y y' with hl | rfl | hl
    · have h1 := h'.below h.1 hl
      have h2 := h.year.2
      omega
    · rfl
    · have h1 := h.below h'.1 hl
      have h2 := h'.year.2
      omega
  subst hy
  obtain ⟨a1, a2, a3, a4, a5, a6⟩ := h
  obtain ⟨b1, b2, b3, b4, b5, b6⟩ := h'
  have hm : m = m' := by
    rcases Int.lt_trichotomy m m' with hl | rfl | hl
    · have := cumL_mono y a2 hl b3
      omega
    · rfl
    · have := cumL_mono y b2 hl a3
      omega
  subst hm
  exact ⟨rfl, rfl, by omega⟩
theorem lp_again (y : Int) : lp (y + 400) = lp y := by
  have h1 : (y + 400) % 4 = y % 4 := by omega
  have h2 : (y + 400) % 100 = y % 100 := by omega
  have h3 : (y + 400) % 400 = y % 400 := by omega
  simp only [lp, h1, h2, h3]
theorem Civ.IsDate.again {n y m d : Int} (h : IsDate n y m d) : IsDate (n + 146097) (y + 400) m d := by
  obtain ⟨a1, a2, a3, a4, a5, a6⟩ := h
  have hl : lpi (y + 400) = lpi y := by simp only [lpi, lp_again]
  have hlen : len (y + 400) m = len y m := by simp only [len, hl]
  have hcum : cumL (y + 400) m = cumL y m := by simp only [cumL, hl]
  have hb : bef (y + 400) = bef y + 146097 := by unfold bef; omega
  exact ⟨by omega, a2, a3, a4, by omega, by omega⟩
/-- does a cron name a day of a month and of a week? -/
def dayB (S : Nat → Nat) (m d w : Int) : Bool := bit (S 3) m.toNat && (if S 2 = spanN 1 31 then bit (S 4) w.toNat else if S 4 = spanN 0 6 then bit (S 2) d.toNat else (bit (S 2) d.toNat || bit (S 4) w.toNat))
def Fit (S : Nat → Nat) (n : Int) : Prop := ∃ y m d, IsDate n y m d ∧ dayB S m d ((n + 1) % 7) = true
theorem fit_at {S : Nat → Nat} {n y m d : Int} (h : IsDate n y m d) : Fit S n ↔ dayB S m d ((n + 1) % 7) = true := by
  constructor
  · rintro ⟨y', m', d', h', hb⟩
    obtain ⟨rfl, rfl, rfl⟩ := h.uniq h'
    exact hb
  · intro hb; exact ⟨y, m, d, h, hb⟩
theorem fit_again {S : Nat → Nat} {n : Int} (hn : 0 ≤ n) : Fit S (n + 146097) ↔ Fit S n := by
  obtain ⟨y, m, d, h⟩ := isDate_ex hn
  rw [fit_at h, fit_at h.again, show (n + 146097 + 1) % 7 = (n + 1) % 7 from by omega]
theorem fit_more {S : Nat → Nat} {n : Int} (hn : 0 ≤ n) (j : Nat) : Fit S (n + 146097 * j) ↔ Fit S n := by
  induction j with
  | zero => simp
  | succ j ih => rw [← ih, ← fit_again (n := n + 146097 * j) (by omega)]; simp only [Int.natCast_succ]; rw [show n + 146097 * ((j : Int) + 1) = n + 146097 * j + 146097 from by omega]
/-- does a cron name a minute of a day? -/
def Min (S : Nat → Nat) (k : Int) : Prop := bit (S 0) (k % 60).toNat = true ∧ bit (S 1) (k % 1440 / 60).toNat = true
def Hit (S : Nat → Nat) (k : Int) : Prop := Min S k ∧ Fit S (k / 1440)
theorem min_day {S : Nat → Nat} {a b : Int} (h : a % 1440 = b % 1440) : Min S a ↔ Min S b := by
  unfold Min
  rw [show a % 60 = b % 60 from by omega, h]
theorem hit_again {S : Nat → Nat} {k : Int} (hk : 0 ≤ k) (j : Nat) : Hit S (k + 210379680 * j) ↔ Hit S k := by
  unfold Hit
  rw [min_day (a := k + 210379680 * j) (b := k) (by omega), show (k + 210379680 * j) / 1440 = k / 1440 + 146097 * j from by omega, fit_more (by omega)]
/-- what is not found in so many days is not found at all -/
theorem none_ever {S : Nat → Nat} {t : Int} (ht : -1 ≤ t) (h : ∀ k, t < k → k < 1440 * ((t + 1) / 1440 + 146098) → ¬ Hit S k) : ∀ k, t < k → ¬ Hit S k := by
  intro k hk hh
  by_cases hl : k < 1440 * ((t + 1) / 1440 + 146098)
  · exact h k hk hl hh
  · have hj : 0 ≤ (k / 1440 - (t + 1) / 1440 - 1) / 146097 := by omega
    obtain ⟨j, hj⟩ := Int.eq_ofNat_of_zero_le hj
    have e : k = (k - 210379680 * j) + 210379680 * j := by omega
    rw [e, hit_again (by omega)] at hh
    exact h (k - 210379680 * j) (by omega) (by omega) hh
/-- the next time that a cron names, behind t -/
def NextIs (S : Nat → Nat) (t v : Int) (ok : Bool) : Prop := (ok = true ∧ t < v ∧ v ≤ 5258964959 ∧ Hit S v ∧ ∀ k, t < k → k < v → ¬ Hit S k) ∨ (ok = false ∧ v = 0 ∧ ∀ k, t < k → k ≤ 5258964959 → ¬ Hit S k)
theorem least {P : Int → Prop} {a : Int} (h : ∃ k, a ≤ k ∧ P k) : ∃ k, a ≤ k ∧ P k ∧ ∀ j, a ≤ j → j < k → ¬ P j := by
  obtain ⟨k, hk, hp⟩ := h
  have : ∀ (n : Nat) k, a ≤ k → P k → k - a ≤ n → ∃ k, a ≤ k ∧ P k ∧ ∀ j, a ≤ j → j < k → ¬ P j := by
    intro n
    induction n with
    | zero => exact fun k h1 h2 h3 => ⟨k, h1, h2, fun j hj hlt => by omega⟩
    | succ n ih =>
      intro k h1 h2 h3
      by_cases hx : ∃ j, a ≤ j ∧ j < k ∧ P j
      · obtain ⟨j, j1, j2, j3⟩ := hx
        exact ih j j1 j3 (by omega)
      · exact ⟨k, h1, h2, fun j j1 j2 j3 => hx ⟨j, j1, j2, j3⟩⟩
  exact this (k - a).toNat k hk hp (by omega)
theorem nextIs_ex (S : Nat → Nat) (t : Int) : ∃ v ok, NextIs S t v ok := by
  by_cases h : ∃ k, t + 1 ≤ k ∧ (k ≤ 5258964959 ∧ Hit S k)
  · obtain ⟨v, h1, h2, h3⟩ := least (P := fun k => k ≤ 5258964959 ∧ Hit S k) h
    exact ⟨v, true, .inl ⟨rfl, by omega, h2.1, h2.2, fun k k1 k2 k3 => h3 k (by omega) k2 ⟨by omega, k3⟩⟩⟩
  · exact ⟨0, false, .inr ⟨rfl, rfl, fun k k1 k2 k3 => h ⟨k, by omega, k2, k3⟩⟩⟩
theorem NextIs.found {S : Nat → Nat} {t v u : Int} {ok : Bool} (h : NextIs S t v ok) (h1 : t < u) (h2 : u ≤ 5258964959) (h3 : Hit S u) (h4 : ∀ k, t < k → k < u → ¬ Hit S k) : u = v ∧ true = ok := by
  rcases h with ⟨rfl, a1, a2, a3, a4⟩ | ⟨rfl, rfl, a⟩
  · rcases Int.lt_trichotomy u v with hl | rfl | hl
    · exact absurd h3 (a4 u h1 hl)
    · exact ⟨rfl, rfl⟩
    · exact absurd a3 (h4 v a1 hl)
  · exact absurd h3 (a u h1 h2)
theorem NextIs.none {S : Nat → Nat} {t v : Int} {ok : Bool} (h : NextIs S t v ok) (h1 : ∀ k, t < k → k ≤ 5258964959 → ¬ Hit S k) : 0 = v ∧ false = ok := by
  rcases h with ⟨rfl, a1, a2, a3, a4⟩ | ⟨rfl, rfl, a⟩
  · exact absurd a3 (h1 v a1 a2)
  · exact ⟨rfl, rfl⟩
/-- the first minute of a day that a cron names, from one on -/
def WithinIs (S : Nat → Nat) (f v : Int) (ok : Bool) : Prop := (ok = true ∧ f ≤ v ∧ v < 1440 ∧ Min S v ∧ ∀ k, f ≤ k → k < v → ¬ Min S k) ∨ (ok = false ∧ v = 0 ∧ ∀ k, f ≤ k → k < 1440 → ¬ Min S k)
theorem withinIs_ex (S : Nat → Nat) (f : Int) : ∃ v ok, WithinIs S f v ok := by
  by_cases h : ∃ k, f ≤ k ∧ (k < 1440 ∧ Min S k)
  · obtain ⟨v, h1, h2, h3⟩ := least (P := fun k => k < 1440 ∧ Min S k) h
    exact ⟨v, true, .inl ⟨rfl, h1, h2.1, h2.2, fun k k1 k2 k3 => h3 k k1 k2 ⟨by omega, k3⟩⟩⟩
  · exact ⟨0, false, .inr ⟨rfl, rfl, fun k k1 k2 k3 => h ⟨k, k1, k2, k3⟩⟩⟩
theorem WithinIs.found {S : Nat → Nat} {t v u : Int} {ok : Bool} (h : WithinIs S t v ok) (h1 : t ≤ u) (h2 : u < 1440) (h3 : Min S u) (h4 : ∀ k, t ≤ k → k < u → ¬ Min S k) : u = v ∧ true = ok := by
  rcases h with ⟨rfl, a1, a2, a3, a4⟩ | ⟨rfl, rfl, a⟩
  · rcases Int.lt_trichotomy u v with hl | rfl | hl
    · exact absurd h3 (a4 u h1 hl)
    · exact ⟨rfl, rfl⟩
    · exact absurd a3 (h4 v a1 hl)
  · exact absurd h3 (a u h1 h2)
theorem WithinIs.none {S : Nat → Nat} {t v : Int} {ok : Bool} (h : WithinIs S t v ok) (h1 : ∀ k, t ≤ k → k < 1440 → ¬ Min S k) : 0 = v ∧ false = ok := by
  rcases h with ⟨rfl, a1, a2, a3, a4⟩ | ⟨rfl, rfl, a⟩
  · exact absurd a3 (h1 v a1 a2)
  · exact ⟨rfl, rfl⟩
end Go.Proofs.YtdbipmidjdhjpaaDoor
