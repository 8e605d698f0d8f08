/- Plain facts: a wide number divided by a short one, as math/bits.Div64 does it. -/
import Derived.Test.YtfjoakhcgpckgaaBase
namespace Go.Proofs.Ytfjoakhcgpckgaa.Dv
set_option linter.unusedVariables false
structure DivS (hi lo y s : Nat) (T y1 l1 H U L0 q1 r1 u1 u0 q0 r0 : Nat) : Prop where
  t : T = 2 ^ s
  y1' : y * T = y1 * 4294967296
  y1p : 0 < y1 ∧ y1 < 4294967296
  h : hi * T = H
  l1' : l1 = lo / 2 ^ (64 - s)
  l1s : l1 < T
  u : H + l1 = U
  ult : U < y1 * 4294967296
  l0 : lo * T % 18446744073709551616 = L0
  u1' : L0 / 4294967296 = u1
  u0' : L0 % 4294967296 = u0
  u1l : u1 < 4294967296 ∧ u0 < 4294967296
  q1' : U / y1 = q1
  r1' : q1 * y1 + r1 = U
  r1l : r1 < y1
  q1l : q1 < 4294967296
  q0' : (r1 * 4294967296 + u1) / y1 = q0
  r0' : q0 * y1 + r0 = r1 * 4294967296 + u1
  r0l : r0 < y1
  q0l : q0 < 4294967296
  quo : q1 * 4294967296 + q0 = (hi * 18446744073709551616 + lo) / y
  rem : (r0 * 4294967296 + u0) / T = (hi * 18446744073709551616 + lo) % y
theorem div_lin {A B l1 L0 H r1 u1 u0 r0 U : Nat} (hU : H + l1 = U) (h1 : A + r1 = U) (h2 : B + r0 = r1 * 4294967296 + u1) (hL : L0 = u1 * 4294967296 + u0) : H * 18446744073709551616 + (l1 * 18446744073709551616 + L0) = A * 18446744073709551616 + B * 4294967296 + (r0 * 4294967296 + u0) := by omega
set_option maxRecDepth 100000 in
theorem divS {hi lo y s : Nat} (hy : 0 < y) (hhy : hi < y) (hlo : lo < 18446744073709551616) (hs : 34 ≤ s) (hs2 : s ≤ 63) (hY : y * 2 ^ s < 18446744073709551616) : ∃ T y1 l1 H U L0 q1 r1 u1 u0 q0 r0, DivS hi lo y s T y1 l1 H U L0 q1 r1 u1 u0 q0 r0 := by
  obtain ⟨T, hT⟩ : ∃ T, T = 2 ^ s := ⟨_, rfl⟩
  obtain ⟨T', hT'⟩ : ∃ T', T' = 2 ^ (s - 32) := ⟨_, rfl⟩
  obtain ⟨E, hE⟩ : ∃ E, E = 2 ^ (64 - s) := ⟨_, rfl⟩
  have e1 : T = T' * 4294967296 := by rw [hT, hT', show (4294967296 : Nat) = 2 ^ 32 from rfl, ← Nat.pow_add]; congr 1; omega
  have e2 : E * T = 18446744073709551616 := by rw [hT, hE, ← Nat.pow_add, show 64 - s + s = 64 from by omega]
  have hT0 : 0 < T := by rw [hT]; exact Nat.two_pow_pos s
  have hT'0 : 0 < T' := by rw [hT']; exact Nat.two_pow_pos _
  have hE0 : 0 < E := by rw [hE]; exact Nat.two_pow_pos _
  rw [← hT] at hY
  have hy1 : y * T = (y * T') * 4294967296 := by rw [e1, Nat.mul_assoc]
  obtain ⟨y1, hy1e⟩ : ∃ y1, y * T' = y1 := ⟨_, rfl⟩
  rw [hy1e] at hy1
  have hy1p : 0 < y1 := by rw [← hy1e]; exact Nat.mul_pos hy hT'0
  have hmod := Nat.div_add_mod lo E
  obtain ⟨l1, hl1⟩ : ∃ l1, l1 = lo / E := ⟨_, rfl⟩
  obtain ⟨l2, hl2⟩ : ∃ l2, l2 = lo % E := ⟨_, rfl⟩
  have hl2l : l2 < E := by rw [hl2]; exact Nat.mod_lt _ hE0
  rw [← hl1, ← hl2] at hmod
  have hl1l : l1 < T := by
    rcases Nat.lt_or_ge l1 T with h | h
    · exact h
    · have : E * T ≤ E * l1 := Nat.mul_le_mul_left E h
      omega
  have hl2T : l2 * T < 18446744073709551616 := by
    have : l2 * T < E * T := Nat.mul_lt_mul_of_pos_right hl2l hT0
    omega
  have hloT : lo * T = l1 * 18446744073709551616 + l2 * T := by
    rw [← hmod, Nat.add_mul, Nat.mul_comm E l1, Nat.mul_assoc, e2]
  have hL0 : lo * T % 18446744073709551616 = l2 * T := by rw [hloT, Nat.mul_comm l1, Nat.mul_add_mod, Nat.mod_eq_of_lt hl2T]
  obtain ⟨L0, hL0e⟩ : ∃ L0, l2 * T = L0 := ⟨_, rfl⟩
  rw [hL0e] at hL0 hloT hl2T
  obtain ⟨H, hH⟩ : ∃ H, hi * T = H := ⟨_, rfl⟩
  have hHT : H + T ≤ y * T := by
    have : (hi + 1) * T ≤ y * T := Nat.mul_le_mul_right T hhy
    rw [Nat.add_mul, Nat.one_mul] at this
    omega
  obtain ⟨U, hU⟩ : ∃ U, H + l1 = U := ⟨_, rfl⟩
  have hUl : U < y1 * 4294967296 := by omega
  have h1 := Nat.div_add_mod U y1
  have h1l := Nat.mod_lt U hy1p
  obtain ⟨q1, hq1⟩ : ∃ q1, U / y1 = q1 := ⟨_, rfl⟩
  obtain ⟨r1, hr1⟩ : ∃ r1, U % y1 = r1 := ⟨_, rfl⟩
  rw [hq1, hr1] at h1
  rw [hr1] at h1l
  rw [Nat.mul_comm] at h1
  have hq1l : q1 < 4294967296 := by rw [← hq1]; exact Nat.div_lt_of_lt_mul hUl
  obtain ⟨u1, hu1⟩ : ∃ u1, L0 / 4294967296 = u1 := ⟨_, rfl⟩
  obtain ⟨u0, hu0⟩ : ∃ u0, L0 % 4294967296 = u0 := ⟨_, rfl⟩
  have hu1l : u1 < 4294967296 := by omega
  obtain ⟨N, hN⟩ : ∃ N, r1 * 4294967296 + u1 = N := ⟨_, rfl⟩
  have hNl : N < y1 * 4294967296 := by omega
  have h2 := Nat.div_add_mod N y1
  have h2l := Nat.mod_lt N hy1p
  obtain ⟨q0, hq0⟩ : ∃ q0, N / y1 = q0 := ⟨_, rfl⟩
  obtain ⟨r0, hr0⟩ : ∃ r0, N % y1 = r0 := ⟨_, rfl⟩
  rw [hq0, hr0] at h2
  rw [hr0] at h2l
  rw [Nat.mul_comm] at h2
  have hq0l : q0 < 4294967296 := by rw [← hq0]; exact Nat.div_lt_of_lt_mul hNl
  have x1 : (q1 * 4294967296) * (y1 * 4294967296) = (q1 * y1) * 18446744073709551616 := by rw [Nat.mul_mul_mul_comm]
  have x2 : q0 * (y1 * 4294967296) = (q0 * y1) * 4294967296 := (Nat.mul_assoc _ _ _).symm
  have hP : (hi * 18446744073709551616 + lo) * T = (y * T) * (q1 * 4294967296 + q0) + (r0 * 4294967296 + u0) := by
    rw [Nat.add_mul, hloT, Nat.mul_right_comm, hH, hy1, Nat.mul_comm (y1 * 4294967296), Nat.add_mul, x1, x2]
    exact div_lin hU h1 (hN ▸ h2) (by omega)
  have hZ : r0 * 4294967296 + u0 < y * T := by omega
  have hYp : 0 < y * T := Nat.mul_pos hy hT0
  have d1 : (hi * 18446744073709551616 + lo) * T / (y * T) = q1 * 4294967296 + q0 := by rw [hP, Nat.mul_add_div hYp, Nat.div_eq_of_lt hZ, Nat.add_zero]
  have d2 : (hi * 18446744073709551616 + lo) * T % (y * T) = r0 * 4294967296 + u0 := by rw [hP, Nat.mul_add_mod, Nat.mod_eq_of_lt hZ]
  rw [Nat.mul_div_mul_right _ _ hT0] at d1
  rw [Nat.mul_mod_mul_right] at d2
  refine ⟨T, y1, l1, H, U, L0, q1, r1, u1, u0, q0, r0, hT, hy1, ⟨hy1p, by omega⟩, hH, by rw [hl1, hE], hl1l, hU, hUl, hL0, hu1, hu0, ⟨hu1l, by omega⟩, hq1, h1, h1l, hq1l, by rw [hN]; exact hq0, by rw [hN]; exact h2, h2l, hq0l, d1.symm, ?_⟩
  rw [← d2, Nat.mul_div_cancel _ hT0]
end Go.Proofs.Ytfjoakhcgpckgaa.Dv
