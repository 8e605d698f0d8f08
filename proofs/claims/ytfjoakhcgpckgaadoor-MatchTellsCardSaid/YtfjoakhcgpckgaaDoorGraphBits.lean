/- Plain facts on bits: one more, one less, the lowest, a test. -/
import Derived.Test.YtfjoakhcgpckgaaDoorGraphMath
import Derived.Laws.BitsAllLaws
import Derived.Laws.Shifts
namespace Go.Proofs.YtfjoakhcgpckgaaDoor.Gr
set_option linter.unusedVariables false
theorem pow_lt64 {i : Nat} (h : i < 60) : 2 ^ i < 18446744073709551616 := Nat.lt_of_lt_of_le (Nat.pow_lt_pow_right (by decide) h) (by decide)
theorem lt64 {n x : Nat} (hn : n ≤ 60) (h : x < 2 ^ n) : x < 18446744073709551616 := Nat.lt_of_lt_of_le h (Nat.le_trans (Nat.pow_le_pow_right (by decide) hn) (by decide))
theorem cast_pow (i : Nat) : ((2 ^ i : Nat) : Int) = 2 ^ i := by simp
theorem bit_set (a i j : Nat) : (a ||| 2 ^ i).testBit j = (a.testBit j || decide (i = j)) := by rw [Nat.testBit_or, Nat.testBit_two_pow]
theorem bit_clear {a i : Nat} (ha : a < 18446744073709551616) (hi : i < 60) (j : Nat) : (a &&& (18446744073709551615 - 2 ^ i)).testBit j = (a.testBit j && decide (j ≠ i)) := by
  rw [Nat.testBit_and]
  have h1 : (18446744073709551615 - 2 ^ i).testBit j = (decide (j < 64) && !(2 ^ i).testBit j) := by
    have := Nat.testBit_two_pow_sub_succ (n := 64) (x := 2 ^ i) (by have := pow_lt64 hi; simpa using this) j
    rwa [show 2 ^ 64 - (2 ^ i + 1) = 18446744073709551615 - 2 ^ i from by omega] at this
  rw [h1, Nat.testBit_two_pow]
  by_cases hj : j < 64
  · by_cases e : i = j
    · subst e; simp
    · have : j ≠ i := fun h => e h.symm
      simp [hj, e, this]
  · have : a.testBit j = false := Nat.testBit_lt_two_pow (Nat.lt_of_lt_of_le ha (by
      have := Nat.pow_le_pow_right (n := 2) (by omega) (show 64 ≤ j by omega)
      simpa using this))
    simp [this]
theorem bit_and_not {a b : Nat} (ha : a < 18446744073709551616) (hb : b < 18446744073709551616) (j : Nat) : (a &&& (18446744073709551615 - b)).testBit j = (a.testBit j && !b.testBit j) := by
  rw [Nat.testBit_and]
  have h1 : (18446744073709551615 - b).testBit j = (decide (j < 64) && !b.testBit j) := by
    have := Nat.testBit_two_pow_sub_succ (n := 64) (x := b) (by simpa using hb) j
    rwa [show 2 ^ 64 - (b + 1) = 18446744073709551615 - b from by omega] at this
  rw [h1]
  by_cases hj : j < 64
  · simp [hj]
  · have : a.testBit j = false := Nat.testBit_lt_two_pow (Nat.lt_of_lt_of_le ha (by
      have := Nat.pow_le_pow_right (n := 2) (by omega) (show 64 ≤ j by omega)
      simpa using this))
    simp [this]
theorem bit_all (n j : Nat) : (2 ^ n - 1).testBit j = decide (j < n) := Nat.testBit_two_pow_sub_one n j
theorem zero_of {a : Nat} (h : ∀ j, a.testBit j = false) : a = 0 := Nat.eq_of_testBit_eq fun n => by simp [h]
theorem ne_zero_of {a j : Nat} (h : a.testBit j = true) : a ≠ 0 := fun e => by rw [e] at h; simp at h
/-- the lowest bit is struck out -/
theorem bit_low {s p : Nat} (hp : s.testBit p = true) (hl : ∀ j, j < p → s.testBit j = false) (j : Nat) : (s &&& (s - 1)).testBit j = (s.testBit j && decide (j ≠ p)) := by
  have hmod : s % 2 ^ (p + 1) = 2 ^ p := by
    refine Nat.eq_of_testBit_eq fun i => ?_
    rw [Nat.testBit_mod_two_pow, Nat.testBit_two_pow]
    by_cases h : i < p
    · rw [hl i h]; simp; omega
    · by_cases e : p = i
      · subst e; simp [hp]
      · simp [e]; omega
  have hs : s = 2 ^ (p + 1) * (s / 2 ^ (p + 1)) + 2 ^ p := by
    have := Nat.div_add_mod s (2 ^ (p + 1))
    rw [hmod] at this
    exact this.symm
  have hs1 : s - 1 = 2 ^ (p + 1) * (s / 2 ^ (p + 1)) + (2 ^ p - 1) := by
    have hpos : 0 < 2 ^ p := Nat.pow_pos (by decide)
    omega
  have hlt : 2 ^ p - 1 < 2 ^ (p + 1) := by
    have := Nat.pow_succ 2 p
    omega
  have h1 : (s - 1).testBit j = if j < p + 1 then (2 ^ p - 1).testBit j else (s / 2 ^ (p + 1)).testBit (j - (p + 1)) := by
    rw [hs1]; exact Nat.testBit_two_pow_mul_add _ hlt _
  have h2 : s.testBit j = if j < p + 1 then (2 ^ p).testBit j else (s / 2 ^ (p + 1)).testBit (j - (p + 1)) := by
    conv => lhs; rw [hs]
    exact Nat.testBit_two_pow_mul_add _ (Nat.pow_lt_pow_right (by decide) (by omega)) _
  rw [Nat.testBit_and, h1, h2, Nat.testBit_two_pow_sub_one, Nat.testBit_two_pow]
  by_cases c : j < p + 1
  · rw [if_pos c, if_pos c]
    by_cases e : p = j
    · subst e; simp
    · have : j ≠ p := fun h => e h.symm
      simp [e]
  · rw [if_neg c, if_neg c]
    have : j ≠ p := by omega
    simp [this]
/-- 's>>n&1 == 1' -/
theorem test_one {s n : Nat} (hs : s < 18446744073709551616) : (bits .and .u64 ((s : Int) / 2 ^ n) 1 == 1) = s.testBit n := by
  have e : (s : Int) / 2 ^ n = ((s / 2 ^ n : Nat) : Int) := by simp
  rw [e, show (1 : Int) = ((1 : Nat) : Int) from rfl, u64_and_nat _ _ (Nat.lt_of_le_of_lt (Nat.div_le_self _ _) hs) (by decide), Nat.and_one_is_mod, Nat.testBit_eq_decide_div_mod_eq, Bool.eq_iff_iff]
  simp
  omega
theorem test_zero {s n : Nat} (hs : s < 18446744073709551616) : (bits .and .u64 ((s : Int) / 2 ^ n) 1 == 0) = !s.testBit n := by
  have e : (s : Int) / 2 ^ n = ((s / 2 ^ n : Nat) : Int) := by simp
  rw [e, show (1 : Int) = ((1 : Nat) : Int) from rfl, u64_and_nat _ _ (Nat.lt_of_le_of_lt (Nat.div_le_self _ _) hs) (by decide), Nat.and_one_is_mod, Nat.testBit_eq_decide_div_mod_eq, Bool.eq_iff_iff]
  simp
  omega
theorem shl_one {i : Nat} (h : i < 60) : IntKind.u64.wrap (1 * 2 ^ min ((i : Int)).toNat 64) = ((2 ^ i : Nat) : Int) := by
  have hp := pow_lt64 h
  rw [Int.toNat_natCast, Nat.min_eq_left (by omega), Int.one_mul, ← cast_pow]
  generalize (2 ^ i : Nat) = z at hp ⊢
  exact IntWalk.u64_in _ ⟨by omega, by omega⟩
theorem shl_pow {i : Nat} (h : i < 60) : IntKind.u64.wrap ((2 : Int) ^ i) = ((2 ^ i : Nat) : Int) := by
  have := shl_one h
  rwa [Int.toNat_natCast, Nat.min_eq_left (by omega), Int.one_mul] at this
theorem or_pow {a i : Nat} (ha : a < 18446744073709551616) (h : i < 60) : bits .or .u64 (a : Int) (IntKind.u64.wrap ((2 : Int) ^ i)) = ((a ||| 2 ^ i : Nat) : Int) := by
  rw [shl_pow h, u64_or_nat _ _ ha (pow_lt64 h)]
theorem clear_pow {a i : Nat} (ha : a < 18446744073709551616) (h : i < 60) : bits .andNot .u64 (a : Int) (IntKind.u64.wrap ((2 : Int) ^ i)) = ((a &&& (18446744073709551615 - 2 ^ i) : Nat) : Int) := by
  rw [shl_pow h, u64_andNot_nat _ _ ha (pow_lt64 h)]
end Go.Proofs.YtfjoakhcgpckgaaDoor.Gr
