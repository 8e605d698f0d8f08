/- Contracts: the product of two numbers divided by a third: math/bits.Div64 whatever the high half; the document's way, bit by bit. -/
import Derived.Test.YtfjoakhcgpckgaaDiv64
import Derived.Lib.ItoaNum
namespace Go.Proofs.Ytfjoakhcgpckgaa
open Go.ChangeShapes Go.WideShapes Go.ChangeAt Go.RowKit
set_option linter.unusedVariables false
theorem div_zero (lo y : Nat) (w : World) (h1 : (0 : Int) < (y : Int)) (h3 : lo < 18446744073709551616) :
    Calls Try.prog 157 #[.int .u64 0, .int .u64 lo, .int .u64 y] w fun e w' => e = .returned (.tuple #[.int .u64 ((lo / y : Nat) : Int), .int .u64 ((lo % y : Nat) : Int)]) ∧ Drawn w w' := by
  have hnz : ¬ (y : Int) = 0 := by omega
  have hy0 : ((y : Int) == 0) = false := by simp; omega
  have hyh : ¬ (y : Int) ≤ 0 := by omega
  have e1 : ((lo / y : Nat) : Int) = (lo : Int) / (y : Int) := by push_cast; rfl
  have e2 : ((lo % y : Nat) : Int) = (lo : Int) % (y : Int) := by push_cast; rfl
  obtain ⟨a, ha⟩ : ∃ a : Int, (lo : Int) / (y : Int) = a := ⟨_, rfl⟩
  obtain ⟨b, hb⟩ : ∃ b : Int, (lo : Int) % (y : Int) = b := ⟨_, rfl⟩
  have g1 : (lo : Int).tdiv (y : Int) = a := by rw [Int.tdiv_eq_ediv_of_nonneg (by omega)]; exact ha
  have g2 : (lo : Int).tmod (y : Int) = b := by rw [Int.tmod_eq_emod_of_nonneg (by omega)]; exact hb
  have wa : IntKind.u64.wrap a = a := by rw [← ha, ← e1]; exact u64s _ (Nat.lt_of_le_of_lt (Nat.div_le_self _ _) h3)
  rw [e1, e2, ha, hb]
  have HW : Hid True := Lib.hid trivial
  clear e1 e2 h3
  generalize (y : Int) = zy at *
  generalize (lo : Int) = zl at *
  go_enter Try.func157, Try.ntmps157
  go_wp2_with fail
  go_quiet (fail)
  go_wp2_with fail
  go_ret2
  exact ⟨rfl, Drawn.drewN w _⟩
theorem lenBounds {y : Nat} (h0 : 0 < y) (h1 : y ≤ 1000000000) : ∃ s, 34 ≤ s ∧ s ≤ 63 ∧ Lib.bitLen y + s = 64 ∧ y * 2 ^ s < 18446744073709551616 := by
  obtain ⟨b1, _, b3⟩ := Lib.bitLenAux_bounds 64 y (by omega) (by omega)
  have b4 := Lib.bitLen_le y 30 (by omega) (by omega)
  have b5 : 1 ≤ Lib.bitLen y := b1
  refine ⟨64 - Lib.bitLen y, by omega, by omega, by omega, ?_⟩
  have h2 : y * 2 ^ (64 - Lib.bitLen y) < 2 ^ Lib.bitLen y * 2 ^ (64 - Lib.bitLen y) := Nat.mul_lt_mul_of_pos_right b3 (Nat.two_pow_pos _)
  rw [← Nat.pow_add, show Lib.bitLen y + (64 - Lib.bitLen y) = 64 from by omega] at h2
  exact h2
theorem div_any (hi lo y : Nat) (w : World) (h0 : 0 < y) (h1 : hi < y) (h2 : y ≤ 1000000000) (h3 : lo < 18446744073709551616) :
    Calls Try.prog 157 #[.int .u64 hi, .int .u64 lo, .int .u64 y] w fun e w' => e = .returned (.tuple #[.int .u64 (((hi * 18446744073709551616 + lo) / y : Nat) : Int), .int .u64 (((hi * 18446744073709551616 + lo) % y : Nat) : Int)]) ∧ Drawn w w' := by
  by_cases hh : hi = 0
  · subst hh
    rw [Nat.zero_mul, Nat.zero_add]
    exact div_zero lo y w (by omega) h3
  · obtain ⟨s, s1, s2, s3, s4⟩ := lenBounds h0 h2
    refine (div_hi hi lo y s w (by omega) (by omega) (by omega) (by omega) s1 s2 s3 s4).mono ?_
    rintro e w' ⟨rfl, rfl⟩
    exact ⟨rfl, Drawn.refl _⟩
/-- what the document's way keeps: so many bits are done -/
structure MdI (a b y k : Nat) (q r : Nat) : Prop where
  eq : q * y + r = a * (b / 2 ^ k)
  lt : r < y
theorem md_bound {a b y q r m : Nat} (hb : b ≤ y) (hm : m ≤ b) (h : q * y + r = a * m) (hy : 0 < y) : q ≤ a := by
  rcases Nat.lt_or_ge a q with h1 | h1
  · have h2 : (a + 1) * y ≤ q * y := Nat.mul_le_mul_right y h1
    rw [Nat.add_mul, Nat.one_mul] at h2
    have h3 : a * m ≤ a * y := Nat.mul_le_mul_left a (by omega)
    omega
  · exact h1
theorem md_start {a b y : Nat} (hy : 0 < y) (hb : b < 2 ^ 64) : MdI a b y 64 0 0 := ⟨by rw [Nat.div_eq_of_lt hb]; simp, hy⟩
theorem md_bit (b i : Nat) : b / 2 ^ i = 2 * (b / 2 ^ (i + 1)) + b / 2 ^ i % 2 := by
  rw [Nat.pow_succ, ← Nat.div_div_eq_div_mul]
  omega
/-- a round: doubled, the bit added, brought below the divisor -/
theorem md_round {a b y i q r : Nat} (h : MdI a b y (i + 1) q r) : (b / 2 ^ i % 2 = 1 → (2 * q + a / y) * y + (2 * r + a % y) = a * (b / 2 ^ i)) ∧ (b / 2 ^ i % 2 = 0 → (2 * q) * y + 2 * r = a * (b / 2 ^ i)) := by
  have h1 := md_bit b i
  have h2 := h.eq
  obtain ⟨m, hm⟩ : ∃ m, b / 2 ^ (i + 1) = m := ⟨_, rfl⟩
  obtain ⟨n, hn⟩ : ∃ n, b / 2 ^ i = n := ⟨_, rfl⟩
  rw [hm] at h1 h2
  rw [hn] at h1 ⊢
  have h3 := Nat.div_add_mod a y
  rw [Nat.mul_comm] at h3
  have e1 : (2 * q + a / y) * y = 2 * (q * y) + a / y * y := by rw [Nat.add_mul, Nat.mul_assoc]
  have e2 : (2 * q) * y = 2 * (q * y) := Nat.mul_assoc _ _ _
  have e3 : a * (2 * m + 1) = 2 * (a * m) + a := by rw [Nat.mul_add, Nat.mul_one, Nat.mul_left_comm]
  have e4 : a * (2 * m) = 2 * (a * m) := Nat.mul_left_comm _ _ _
  constructor
  · intro hb
    rw [hb] at h1
    rw [h1, e1, e3, ← h2]
    omega
  · intro hb
    rw [hb, Nat.add_zero] at h1
    rw [h1, e2, e4, ← h2]
    omega
set_option maxRecDepth 100000 in
set_option maxHeartbeats 1600000 in
theorem mulDiv_any (a b y : Nat) (w : World) (hy : (0 : Int) < (y : Int)) (hy2 : (y : Int) ≤ 1000000000) (ha : (a : Int) ≤ 1099511627776) (hby : b ≤ y) :
    Calls Try.prog 160 #[.int .u64 a, .int .u64 b, .int .u64 y] w fun e w' => e = .returned (.tuple #[.int .u64 ((a * b / y : Nat) : Int), .int .u64 ((a * b % y : Nat) : Int)]) ∧ w' = w := by
  have HI0 : Hid (MdI a b y 64 0 0) := Lib.hid (md_start (by omega) (by omega))
  have HBY := Lib.hid hby
  have HY := Lib.hid hy
  have hnz : ¬ (y : Int) = 0 := by omega
  clear hby
  go_enter Try.func160, Try.ntmps160
  go_wp2_with fail
  go_loopg [6, 7, 8] 64 (fun gk x6 x7 x8 wr => ∃ (k q r : Nat), k ≤ gk ∧ k ≤ 64 ∧ x6 = .int .u64 (q : Int) ∧ x7 = .int .u64 (r : Int) ∧ x8 = .int .i64 ((k : Int) - 1) ∧ Hid (MdI a b y k q r) ∧ wr = w)
  case atStart => exact ⟨64, 0, 0, by omega, by omega, rfl, rfl, rfl, HI0, rfl⟩
  case round =>
    clear HI0
    obtain ⟨k, q, r, hkg, hk, rfl, rfl, rfl, HI, hwr⟩ := hrel
    obtain rfl := hwr.symm
    cases k with
    | zero =>
      have hneg : ¬ (((0 : Nat) : Int) - 1 ≥ 0) := by omega
      have HR : Hid (q = a * b / y ∧ r = a * b % y) := Lib.hid (by
        have h1 := HI.out.eq
        have h2 := HI.out.lt
        rw [Nat.pow_zero, Nat.div_one] at h1
        rw [← h1, Nat.mul_comm q y]
        exact ⟨by rw [Nat.mul_add_div (by have := HY.out; omega), Nat.div_eq_of_lt h2, Nat.add_zero], by rw [Nat.mul_add_mod, Nat.mod_eq_of_lt h2]⟩)
      go_wp2_with fail
      go_ret2
      exact ⟨by rw [HR.out.1, HR.out.2]; rfl, rfl⟩
    | succ i =>
      have hqb : q ≤ a := md_bound (m := b / 2 ^ (i + 1)) HBY.out (Nat.div_le_self _ _) HI.out.eq (by have := HY.out; omega)
      have hrb := HI.out.lt
      have hii : ((i + 1 : Nat) : Int) - 1 = (i : Int) := by omega
      rw [hii]
      obtain ⟨q2, hq2⟩ : ∃ q2, 2 * q = q2 := ⟨_, rfl⟩
      obtain ⟨r2, hr2⟩ : ∃ r2, 2 * r = r2 := ⟨_, rfl⟩
      have f1 : (q : Int) * 2 = (q2 : Int) := by omega
      have f2 : (r : Int) * 2 = (r2 : Int) := by omega
      have f3 : IntKind.u64.wrap (q2 : Int) = (q2 : Int) := u64s _ (by omega)
      have f4 : IntKind.u64.wrap (r2 : Int) = (r2 : Int) := u64s _ (by omega)
      have hi1 : (i : Int) - 1 + 1 = (i : Int) := by omega
      have hi2 : (i : Int) ≥ 0 := by omega
      have hi3 : ¬ ((i : Int) < 0) := by omega
      obtain ⟨n, hn⟩ : ∃ n, b / 2 ^ i = n := ⟨_, rfl⟩
      have f5 : (b : Int) / 2 ^ i = (n : Int) := by rw [← hn]; push_cast; rfl
      have HNN := Lib.hid hn
      have HNB : Hid (n ≤ b) := Lib.hid (by rw [← hn]; exact Nat.div_le_self _ _)
      obtain ⟨hm1, hm0⟩ := md_round HI.out
      rw [hn] at hm1 hm0
      have HM1 := Lib.hid hm1
      have HM0 := Lib.hid hm0
      obtain ⟨gq, rfl⟩ : ∃ q, q = gk := ⟨_, rfl⟩
      clear hn hm1 hm0
      rcases Nat.mod_two_eq_zero_or_one n with hb | hb
      · have f6 : (n : Int) % 2 = 0 := by omega
        have HE : Hid (q2 * y + r2 = a * n) := Lib.hid (by rw [← hq2, ← hr2]; exact HM0.out hb)
        clear hb hq2 hr2
        go_wp2_with fail
        go_loopg [6, 7] r2 (fun gk x6 x7 wr => ∃ (q' r' : Nat), r' ≤ gk ∧ x6 = .int .u64 (q' : Int) ∧ x7 = .int .u64 (r' : Int) ∧ Hid (q' * y + r' = a * n) ∧ (r' : Int) ≤ 4000000000 ∧ wr = w)
        case atStart => exact ⟨q2, r2, Nat.le_refl _, rfl, rfl, HE, by omega, rfl⟩
        case round =>
          clear HE
          obtain ⟨q', r', hrg, rfl, rfl, HE, hr4, hwr⟩ := hrel
          obtain rfl := hwr.symm
          have hqb' : q' ≤ a := md_bound (m := n) HBY.out (by have := HNB.out; omega) HE.out (by have := HY.out; omega)
          by_cases hry : y ≤ r'
          · have h1 : (r' : Int) ≥ (y : Int) := by omega
            obtain ⟨r5, hr5⟩ : ∃ r5, r5 + y = r' := ⟨r' - y, by omega⟩
            have g1 : (r' : Int) - (y : Int) = (r5 : Int) := by omega
            have g2 : IntKind.u64.wrap (r5 : Int) = (r5 : Int) := u64s _ (by omega)
            have g3 : IntKind.u64.wrap ((q' : Int) + 1) = ((q' + 1 : Nat) : Int) := by rw [show (q' : Int) + 1 = ((q' + 1 : Nat) : Int) from by push_cast; rfl]; exact u64s _ (by omega)
            have HE2 : Hid ((q' + 1) * y + r5 = a * n) := Lib.hid (by rw [← HE.out, Nat.add_mul, Nat.one_mul]; omega)
            go_wp2_with fail
            go_roundg r5
            case measure => have := HY.out; omega
            case rel => exact ⟨q' + 1, r5, Nat.le_refl _, rfl, rfl, HE2, by omega, rfl⟩
          · have h1 : ¬ (r' : Int) ≥ (y : Int) := by omega
            have HM : Hid (MdI a b y i q' r') := Lib.hid ⟨by rw [HE.out, HNN.out], by omega⟩
            have wi : IntKind.i64.wrap ((i : Int) - 1) = (i : Int) - 1 := IntWalk.i64_in _ (by omega)
            go_wp2_with fail
            go_roundg (gq - 1)
            case measure => omega
            case rel => exact ⟨i, q', r', by omega, by omega, rfl, rfl, rfl, HM, rfl⟩
      · have f6 : (n : Int) % 2 = 1 := by omega
        obtain ⟨qa, hqa⟩ : ∃ qa, a / y = qa := ⟨_, rfl⟩
        obtain ⟨ra, hra⟩ : ∃ ra, a % y = ra := ⟨_, rfl⟩
        have hqal : qa ≤ a := by rw [← hqa]; exact Nat.div_le_self _ _
        have hral : ra < y := by rw [← hra]; exact Nat.mod_lt _ (by have := HY.out; omega)
        have f7 : (a : Int) / (y : Int) = (qa : Int) := by rw [← hqa]; push_cast; rfl
        have f8 : (a : Int) % (y : Int) = (ra : Int) := by rw [← hra]; push_cast; rfl
        have f9 : (a : Int).tdiv (y : Int) = (qa : Int) := by rw [Int.tdiv_eq_ediv_of_nonneg (by omega)]; exact f7
        have f10 : (a : Int).tmod (y : Int) = (ra : Int) := by rw [Int.tmod_eq_emod_of_nonneg (by omega)]; exact f8
        have f11 : IntKind.u64.wrap (qa : Int) = (qa : Int) := u64s _ (by omega)
        obtain ⟨q3, hq3⟩ : ∃ q3, q2 + qa = q3 := ⟨_, rfl⟩
        obtain ⟨r3, hr3⟩ : ∃ r3, r2 + ra = r3 := ⟨_, rfl⟩
        have f12 : (q2 : Int) + (qa : Int) = (q3 : Int) := by omega
        have f13 : (r2 : Int) + (ra : Int) = (r3 : Int) := by omega
        have f14 : IntKind.u64.wrap (q3 : Int) = (q3 : Int) := u64s _ (by omega)
        have f15 : IntKind.u64.wrap (r3 : Int) = (r3 : Int) := u64s _ (by omega)
        have HE : Hid (q3 * y + r3 = a * n) := Lib.hid (by rw [← hq3, ← hr3, ← hq2, ← hr2, ← hqa, ← hra]; exact HM1.out hb)
        clear hb hq2 hr2 hq3 hr3 hqa hra
        go_wp2_with fail
        go_loopg [6, 7] r3 (fun gk x6 x7 wr => ∃ (q' r' : Nat), r' ≤ gk ∧ x6 = .int .u64 (q' : Int) ∧ x7 = .int .u64 (r' : Int) ∧ Hid (q' * y + r' = a * n) ∧ (r' : Int) ≤ 4000000000 ∧ wr = w)
        case atStart => exact ⟨q3, r3, Nat.le_refl _, rfl, rfl, HE, by omega, rfl⟩
        case round =>
          clear HE
          obtain ⟨q', r', hrg, rfl, rfl, HE, hr4, hwr⟩ := hrel
          obtain rfl := hwr.symm
          have hqb' : q' ≤ a := md_bound (m := n) HBY.out (by have := HNB.out; omega) HE.out (by have := HY.out; omega)
          by_cases hry : y ≤ r'
          · have h1 : (r' : Int) ≥ (y : Int) := by omega
            obtain ⟨r5, hr5⟩ : ∃ r5, r5 + y = r' := ⟨r' - y, by omega⟩
            have g1 : (r' : Int) - (y : Int) = (r5 : Int) := by omega
            have g2 : IntKind.u64.wrap (r5 : Int) = (r5 : Int) := u64s _ (by omega)
            have g3 : IntKind.u64.wrap ((q' : Int) + 1) = ((q' + 1 : Nat) : Int) := by rw [show (q' : Int) + 1 = ((q' + 1 : Nat) : Int) from by push_cast; rfl]; exact u64s _ (by omega)
            have HE2 : Hid ((q' + 1) * y + r5 = a * n) := Lib.hid (by rw [← HE.out, Nat.add_mul, Nat.one_mul]; omega)
            go_wp2_with fail
            go_roundg r5
            case measure => have := HY.out; omega
            case rel => exact ⟨q' + 1, r5, Nat.le_refl _, rfl, rfl, HE2, by omega, rfl⟩
          · have h1 : ¬ (r' : Int) ≥ (y : Int) := by omega
            have HM : Hid (MdI a b y i q' r') := Lib.hid ⟨by rw [HE.out, HNN.out], by omega⟩
            have wi : IntKind.i64.wrap ((i : Int) - 1) = (i : Int) - 1 := IntWalk.i64_in _ (by omega)
            go_wp2_with fail
            go_roundg (gq - 1)
            case measure => omega
            case rel => exact ⟨i, q', r', by omega, by omega, rfl, rfl, rfl, HM, rfl⟩
end Go.Proofs.Ytfjoakhcgpckgaa
