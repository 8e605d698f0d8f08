/- Contract: math/bits.Div64 where the divisor is short (below 2^30). -/
import Derived.Test.YtfjoakhcgpckgaaDivM
import Derived.Test.YtfjoakhcgpckgaaShelf
import Derived.Test.YtfjoakhcgpckgaaShare
import Derived.Laws.Bits64b
namespace Go.Proofs.Ytfjoakhcgpckgaa
open Go.ChangeShapes Go.WideShapes Go.ChangeAt Go.RowKit
set_option linter.unusedVariables false
open Dv
theorem u64n (n : Nat) : IntKind.u64.wrap (n : Int) = ((n % 18446744073709551616 : Nat) : Int) := by rw [IntKind.wrap_u64]; omega
theorem u64s (n : Nat) (h : n < 18446744073709551616) : IntKind.u64.wrap (n : Int) = (n : Int) := by rw [u64n, Nat.mod_eq_of_lt h]
theorem andMask (n : Nat) (h : n < 18446744073709551616) : bits .and .u64 (n : Int) 4294967295 = ((n % 4294967296 : Nat) : Int) := by
  have h1 := bits_and_u64_nat n 4294967295 h (by omega)
  rw [show (4294967295 : Nat) = 2 ^ 32 - 1 from rfl, Nat.and_two_pow_sub_one_eq_mod] at h1
  exact h1
theorem orLow (hi T s l1 : Nat) (hT : T = 2 ^ s) (h : hi * T + l1 < 18446744073709551616) (hl : l1 < T) : bits .or .u64 ((hi * T : Nat) : Int) (l1 : Int) = ((hi * T + l1 : Nat) : Int) := by
  rw [bits_or_u64_nat _ _ (by omega) (by omega)]
  subst hT
  rw [← Nat.shiftLeft_eq, Nat.shiftLeft_add_eq_or_of_lt hl]
theorem castC (x : Nat) : ((x * 4294967296 : Nat) : Int) = (x : Int) * 4294967296 := by rw [Int.natCast_mul]; rfl
theorem castD (x : Nat) : ((4294967296 * x : Nat) : Int) = 4294967296 * (x : Int) := by rw [Int.natCast_mul]; rfl
theorem sub_mod {U u a r N c2 c3 c4 : Nat} (h2 : U * 4294967296 % 18446744073709551616 = c2) (h3 : (c2 + u) % 18446744073709551616 = c3) (h4 : a * 4294967296 % 18446744073709551616 = c4) (hU : a + r = U) (hN : r * 4294967296 + u = N) (hl : N < 18446744073709551616) : IntKind.u64.wrap ((c3 : Int) - (c4 : Int)) = (N : Int) := by
  rw [IntKind.wrap_u64]
  omega
set_option maxRecDepth 100000 in
set_option maxHeartbeats 1600000 in
theorem div_hi (hi lo y : Nat) (s : Nat) (w : World) (h0 : 0 < hi) (h1 : (hi : Int) < (y : Int)) (h2 : (y : Int) ≤ 1000000000) (h3 : (lo : Int) ≤ 18446744073709551615) (hs : 34 ≤ s) (hs2 : s ≤ 63) (hL : Lib.bitLen y + s = 64) (hY : y * 2 ^ s < 18446744073709551616) :
    Calls Try.prog 157 #[.int .u64 hi, .int .u64 lo, .int .u64 y] w fun e w' => e = .returned (.tuple #[.int .u64 (((hi * 18446744073709551616 + lo) / y : Nat) : Int), .int .u64 (((hi * 18446744073709551616 + lo) % y : Nat) : Int)]) ∧ w' = w := by
  obtain ⟨T, y1, l1, H, U, L0, q1, r1, u1, u0, q0, r0, hd⟩ := divS (hi := hi) (lo := lo) (y := y) (s := s) (by omega) (by omega) (by omega) hs hs2 hY
  have hT := hd.t
  obtain ⟨Y, hYe⟩ : ∃ Y, y1 * 4294967296 = Y := ⟨_, rfl⟩
  obtain ⟨Q, hQ⟩ : ∃ Q, (hi * 18446744073709551616 + lo) / y = Q := ⟨_, rfl⟩
  obtain ⟨R, hR⟩ : ∃ R, (hi * 18446744073709551616 + lo) % y = R := ⟨_, rfl⟩
  rw [hQ, hR]
  have hYT : y * T = Y := by rw [hd.y1', hYe]
  have hYl : Y < 18446744073709551616 := by rw [← hYT, hT]; exact hY
  have castT : ∀ x : Nat, (x : Int) * (2 : Int) ^ s = ((x * T : Nat) : Int) := fun x => by rw [hT]; push_cast; rfl
  have hU64 : U < 18446744073709551616 := by have := hd.ult; omega
  have f1 : IntKind.u64.wrap ((y : Int) * 2 ^ s) = (Y : Int) := by rw [castT, hYT, u64s _ hYl]
  have f2 : (Y : Int) / 4294967296 = (y1 : Int) := by omega
  have f3 : bits BinOp.and IntKind.u64 (Y : Int) 4294967295 = 0 := by rw [andMask _ hYl, ← hYe, Nat.mul_mod_left]; rfl
  have f4 : IntKind.u64.wrap ((hi : Int) * 2 ^ s) = (H : Int) := by rw [castT, hd.h, u64s _ (by have := hd.u; omega)]
  have f5 : (lo : Int) / 2 ^ (64 - s) = (l1 : Int) := by rw [hd.l1']; push_cast; rfl
  have f6 : bits BinOp.or IntKind.u64 (H : Int) (l1 : Int) = (U : Int) := by rw [← hd.h, orLow hi T s l1 hT (by rw [hd.h, hd.u]; exact hU64) hd.l1s, hd.h, hd.u]
  have f7 : IntKind.u64.wrap ((lo : Int) * 2 ^ s) = (L0 : Int) := by rw [castT, u64n, hd.l0]
  have hL0 : L0 < 18446744073709551616 := by rw [← hd.l0]; exact Nat.mod_lt _ (by omega)
  have f8 : (L0 : Int) / 4294967296 = (u1 : Int) := by have := hd.u1'; omega
  have f9 : bits BinOp.and IntKind.u64 (L0 : Int) 4294967295 = (u0 : Int) := by rw [andMask _ hL0, hd.u0']
  have f10 : (U : Int) / (y1 : Int) = (q1 : Int) := by rw [← hd.q1']; rfl
  obtain ⟨a, ha⟩ : ∃ a, q1 * y1 = a := ⟨_, rfl⟩
  have haU : a + r1 = U := by rw [← ha]; exact hd.r1'
  have f11 : (q1 : Int) * (y1 : Int) = (a : Int) := by rw [← ha]; push_cast; rfl
  have f12 : IntKind.u64.wrap (a : Int) = (a : Int) := u64s _ (by omega)
  have f13 : (U : Int) - (a : Int) = (r1 : Int) := by omega
  have hr1l := hd.r1l
  have hy1l := hd.y1p.2
  have f14 : IntKind.u64.wrap (r1 : Int) = (r1 : Int) := u64s _ (by omega)
  obtain ⟨b, hb⟩ : ∃ b, 4294967296 * r1 = b := ⟨_, rfl⟩
  have f15 : (4294967296 : Int) * (r1 : Int) = (b : Int) := by omega
  have f16 : IntKind.u64.wrap (b : Int) = (b : Int) := u64s _ (by omega)
  have hu1l := hd.u1l
  obtain ⟨N, hN⟩ : ∃ N, b + u1 = N := ⟨_, rfl⟩
  have f17 : (b : Int) + (u1 : Int) = (N : Int) := by omega
  have f18 : IntKind.u64.wrap (N : Int) = (N : Int) := u64s _ (by omega)
  have hNr : r1 * 4294967296 + u1 = N := by rw [← hN, ← hb, Nat.mul_comm]
  have hq1l := hd.q1l
  have f19 : ¬ (q1 : Int) ≥ 4294967296 := by omega
  have f20 : ¬ (0 : Int) > (N : Int) := by omega
  have hqY : q1 * Y = a * 4294967296 := by rw [← hYe, ← ha, Nat.mul_assoc]
  obtain ⟨c2, hc2⟩ : ∃ c2, U * 4294967296 % 18446744073709551616 = c2 := ⟨_, rfl⟩
  have f21 : IntKind.u64.wrap ((U : Int) * 4294967296) = (c2 : Int) := by rw [← castC, u64n, hc2]
  obtain ⟨c3, hc3⟩ : ∃ c3, (c2 + u1) % 18446744073709551616 = c3 := ⟨_, rfl⟩
  have f22 : IntKind.u64.wrap ((c2 : Int) + (u1 : Int)) = (c3 : Int) := by rw [show (c2 : Int) + (u1 : Int) = ((c2 + u1 : Nat) : Int) from by push_cast; rfl, u64n, hc3]
  obtain ⟨c4, hc4⟩ : ∃ c4, q1 * Y % 18446744073709551616 = c4 := ⟨_, rfl⟩
  have f23 : IntKind.u64.wrap ((q1 : Int) * (Y : Int)) = (c4 : Int) := by rw [show (q1 : Int) * (Y : Int) = ((q1 * Y : Nat) : Int) from by push_cast; rfl, u64n, hc4]
  have f24 : IntKind.u64.wrap ((c3 : Int) - (c4 : Int)) = (N : Int) := by
    rw [hqY] at hc4
    exact sub_mod hc2 hc3 hc4 haU hNr (by omega)
  have f25 : (N : Int) / (y1 : Int) = (q0 : Int) := by rw [← hd.q0', hNr]; rfl
  have hr0l := hd.r0l
  have hq0l := hd.q0l
  obtain ⟨e, he⟩ : ∃ e, q0 * y1 = e := ⟨_, rfl⟩
  have heN : e + r0 = N := by rw [← he, ← hNr]; exact hd.r0'
  have f26 : (q0 : Int) * (y1 : Int) = (e : Int) := by rw [← he]; push_cast; rfl
  have f27 : IntKind.u64.wrap (e : Int) = (e : Int) := u64s _ (by omega)
  have f28 : (N : Int) - (e : Int) = (r0 : Int) := by omega
  have f29 : IntKind.u64.wrap (r0 : Int) = (r0 : Int) := u64s _ (by omega)
  obtain ⟨f, hf⟩ : ∃ f, 4294967296 * r0 = f := ⟨_, rfl⟩
  have f30 : (4294967296 : Int) * (r0 : Int) = (f : Int) := by rw [← hf, castD]
  have f31 : IntKind.u64.wrap (f : Int) = (f : Int) := u64s _ (by omega)
  obtain ⟨Z, hZ⟩ : ∃ Z, f + u0 = Z := ⟨_, rfl⟩
  have f32 : (f : Int) + (u0 : Int) = (Z : Int) := by omega
  have f33 : IntKind.u64.wrap (Z : Int) = (Z : Int) := u64s _ (by omega)
  have hZr : r0 * 4294967296 + u0 = Z := by rw [← hZ, ← hf, Nat.mul_comm]
  have f34 : ¬ (q0 : Int) ≥ 4294967296 := by omega
  have f35 : ¬ (0 : Int) > (Z : Int) := by omega
  obtain ⟨g, hg⟩ : ∃ g, q1 * 4294967296 = g := ⟨_, rfl⟩
  have f36 : (q1 : Int) * 4294967296 = (g : Int) := by rw [← hg, castC]
  have f37 : IntKind.u64.wrap (g : Int) = (g : Int) := u64s _ (by omega)
  have hgQ : g + q0 = Q := by rw [← hg, ← hQ]; exact hd.quo
  have f38 : (g : Int) + (q0 : Int) = (Q : Int) := by omega
  have f39 : IntKind.u64.wrap (Q : Int) = (Q : Int) := u64s _ (by omega)
  have hqY0 : q0 * Y = e * 4294967296 := by rw [← hYe, ← he, Nat.mul_assoc]
  obtain ⟨c5, hc5⟩ : ∃ c5, N * 4294967296 % 18446744073709551616 = c5 := ⟨_, rfl⟩
  have f40 : IntKind.u64.wrap ((N : Int) * 4294967296) = (c5 : Int) := by rw [← castC, u64n, hc5]
  obtain ⟨c6, hc6⟩ : ∃ c6, (c5 + u0) % 18446744073709551616 = c6 := ⟨_, rfl⟩
  have f41 : IntKind.u64.wrap ((c5 : Int) + (u0 : Int)) = (c6 : Int) := by rw [show (c5 : Int) + (u0 : Int) = ((c5 + u0 : Nat) : Int) from by push_cast; rfl, u64n, hc6]
  obtain ⟨c7, hc7⟩ : ∃ c7, q0 * Y % 18446744073709551616 = c7 := ⟨_, rfl⟩
  have f42 : IntKind.u64.wrap ((q0 : Int) * (Y : Int)) = (c7 : Int) := by rw [show (q0 : Int) * (Y : Int) = ((q0 * Y : Nat) : Int) from by push_cast; rfl, u64n, hc7]
  have f43 : IntKind.u64.wrap ((c6 : Int) - (c7 : Int)) = (Z : Int) := by
    rw [hqY0] at hc7
    exact sub_mod hc5 hc6 hc7 heN hZr (by omega)
  have f44 : (Z : Int) / 2 ^ s = (R : Int) := by rw [← hR, ← hd.rem, hZr, hT]; push_cast; rfl
  have hy0 : ((y : Int) == 0) = false := by simp; omega
  have hyh : ¬ (y : Int) ≤ (hi : Int) := by omega
  have g1 : IntKind.u64.wrap (q1 : Int) = (q1 : Int) := u64s _ (by omega)
  have g2 : IntKind.u64.wrap (q0 : Int) = (q0 : Int) := u64s _ (by omega)
  have g3 : (U : Int).tdiv (y1 : Int) = (q1 : Int) := by rw [Int.tdiv_eq_ediv_of_nonneg (by omega)]; exact f10
  have g4 : (N : Int).tdiv (y1 : Int) = (q0 : Int) := by rw [Int.tdiv_eq_ediv_of_nonneg (by omega)]; exact f25
  have hy1p : ((y1 : Int) == 0) = false := by have := hd.y1p.1; simp; omega
  have hh0 : ((hi : Int) == 0) = false := by simp; omega
  have HLZ := Lib.hid (Try.bits_LeadingZeros64 (y : Int) w (by omega) (by omega))
  have hbl : (64 : Int) - (Lib.bitLen y : Int) = (s : Int) := by omega
  have hbl2 : ((y : Int)).toNat = y := by simp
  rw [hbl2, hbl] at HLZ
  clear hbl hbl2 hL hd hT hYe hQ hR hYT hYl castT hU64 hL0 ha haU hr1l hy1l hb hu1l hN hNr hq1l hqY hc2 hc3 hc4 hr0l hq0l he heN hf hZ hZr hg hgQ hqY0 hc5 hc6 hc7 hY
  have hnz : ¬ (y1 : Int) = 0 := by have := hy1p; simp at this; omega
  clear hy1p
  generalize (y1 : Int) = zy at f2 f10 f11 f25 f26 g3 g4 hnz
  generalize (q1 : Int) = zq1 at f10 f11 f19 f23 f36 g1 g3
  generalize (q0 : Int) = zq0 at f25 f26 f34 f38 f42 g2 g4
  generalize (N : Int) = zN at f17 f18 f20 f24 f25 f28 f40 g4
  generalize (Z : Int) = zZ at f32 f33 f35 f43 f44
  go_enter Try.func157, Try.ntmps157
  go_upto_region 15 with (go_at_call 203; refine Calls.mono HLZ.out ?_; rintro e w1 ⟨rfl, hw1⟩; obtain rfl := hw1.symm)
  clear f1 f2 f3 f4 f5 f6 f7 f8 f9 h3 h2
  go_wp2_with fail
  go_loopg [15, 16] 1 (fun gk x y wr => x = .int .u64 zq1 ∧ y = .int .u64 (r1 : Int) ∧ wr = w)
  case atStart => exact ⟨rfl, rfl, rfl⟩
  case round =>
    obtain ⟨rfl, rfl, hwr⟩ := hrel
    obtain rfl := hwr.symm
    go_wp2_with fail
    go_loopg [16, 18] 1 (fun gk x y wr => x = .int .u64 (r0 : Int) ∧ y = .int .u64 zq0 ∧ wr = w)
    case atStart => exact ⟨rfl, rfl, rfl⟩
    case round =>
      obtain ⟨rfl, rfl, hwr⟩ := hrel
      obtain rfl := hwr.symm
      go_wp2_with fail
      go_ret2
      exact ⟨rfl, rfl⟩
end Go.Proofs.Ytfjoakhcgpckgaa
