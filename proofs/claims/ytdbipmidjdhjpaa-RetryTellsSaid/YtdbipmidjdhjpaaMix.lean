/- Wait's mixing of a seed: the program's and the document's are one function. -/
import Derived.Test.YtdbipmidjdhjpaaBase
namespace Go.Proofs.Ytdbipmidjdhjpaa
open Go.ChangeShapes Go.WideShapes Go.ChangeAt Go.RowKit
set_option linter.unusedVariables false

def mixStep (u : Int) (d : Int) : Int := bits BinOp.xor IntKind.u64 u (u / d)
def mixV (s n : Int) : Int :=
  bits BinOp.xor IntKind.u64
            (IntKind.u64.wrap
              (bits BinOp.xor IntKind.u64
                  (IntKind.u64.wrap (s + IntKind.u64.wrap (IntKind.u64.wrap n * 11415608902753622599)))
                  (IntKind.u64.wrap (s + IntKind.u64.wrap (IntKind.u64.wrap n * 11415608902753622599)) / 4294967296) *
                15074714826142052245))
            (IntKind.u64.wrap
                (bits BinOp.xor IntKind.u64
                    (IntKind.u64.wrap (s + IntKind.u64.wrap (IntKind.u64.wrap n * 11415608902753622599)))
                    (IntKind.u64.wrap (s + IntKind.u64.wrap (IntKind.u64.wrap n * 11415608902753622599)) / 4294967296) *
                  15074714826142052245) /
              536870912)
theorem mix_any (s n : Int) (w : World) (h1 : 0 ≤ s) (h2 : s ≤ 18446744073709551615) :
    Calls Try.prog 59 #[.int .u64 s, .int .i64 n] w fun e w' => e = .returned (.int .u64 (mixV s n)) ∧ w = w' := by
  go_enter Try.func59, Try.ntmps59
  go_wp2
  go_ret
  exact ⟨rfl, rfl⟩

theorem u64_is (x : Int) : IntKind.u64.wrap x = x % 18446744073709551616 := by
  rw [IntKind.wrap_u64]
theorem u64_lo (x : Int) : 0 ≤ IntKind.u64.wrap x := by rw [u64_is]; omega
theorem u64_hi (x : Int) : IntKind.u64.wrap x ≤ 18446744073709551615 := by rw [u64_is]; omega

theorem times_odd (a b p q r : Int) (h : IntKind.u64.wrap (r + p * q) = IntKind.u64.wrap (a * b)) (ho : q % 2 = 1) :
    IntKind.u64.wrap (IntKind.u64.wrap (r + p) + IntKind.u64.wrap (p + p) * (q / 2)) = IntKind.u64.wrap (a * b) := by
  rw [← h]
  simp only [u64_is]
  have e1 := Int.emod_add_mul_ediv (r + p) 18446744073709551616
  have e2 := Int.emod_add_mul_ediv (p + p) 18446744073709551616
  have e3 : q = 2 * (q / 2) + 1 := by omega
  clear h
  generalize q / 2 = k at *
  generalize (r + p) % 18446744073709551616 = x at *
  generalize (p + p) % 18446744073709551616 = y at *
  generalize (r + p) / 18446744073709551616 = i at *
  generalize (p + p) / 18446744073709551616 = j at *
  subst e3
  have e : r + p * (2 * k + 1) = (x + y * k) + 18446744073709551616 * (i + j * k) := by grind
  rw [e, Int.add_mul_emod_self_left]
theorem times_even (a b p q r : Int) (h : IntKind.u64.wrap (r + p * q) = IntKind.u64.wrap (a * b)) (ho : ¬ q % 2 = 1) :
    IntKind.u64.wrap (r + IntKind.u64.wrap (p + p) * (q / 2)) = IntKind.u64.wrap (a * b) := by
  rw [← h]
  simp only [u64_is]
  have e2 := Int.emod_add_mul_ediv (p + p) 18446744073709551616
  have e3 : q = 2 * (q / 2) := by omega
  clear h
  generalize q / 2 = k at *
  generalize (p + p) % 18446744073709551616 = y at *
  generalize (p + p) / 18446744073709551616 = j at *
  subst e3
  have e : r + p * (2 * k) = (r + y * k) + 18446744073709551616 * (j * k) := by grind
  rw [e, Int.add_mul_emod_self_left]

theorem times_any (a b : Int) (w : World) (h1 : 0 ≤ a) (h2 : a ≤ 18446744073709551615) (h3 : 0 ≤ b) (h4 : b ≤ 18446744073709551615) :
    Calls Try.prog 60 #[.int .u64 a, .int .u64 b] w fun e w' => e = .returned (.int .u64 (IntKind.u64.wrap (a * b))) ∧ w = w' := by
  go_enter Try.func60, Try.ntmps60
  go_wp2
  go_loop [0, 1, 5] (fun x y z => ∃ p q r : Int, x = .int .u64 p ∧ y = .int .u64 q ∧ z = .int .u64 r ∧ 0 ≤ p ∧ p ≤ 18446744073709551615 ∧ 0 ≤ q ∧ q ≤ 18446744073709551615 ∧ 0 ≤ r ∧ r ≤ 18446744073709551615 ∧ Hid (IntKind.u64.wrap (r + p * q) = IntKind.u64.wrap (a * b))) (fun _ y _ => (intOf y).toNat)
  case atStart => exact ⟨a, b, 0, rfl, rfl, rfl, h1, h2, h3, h4, by omega, by omega, Lib.hid (by rw [Int.zero_add])⟩
  case round =>
    obtain ⟨p, q, r, rfl, rfl, rfl, p1, p2, q1, q2, r1, r2, H⟩ := hrel
    go_wp2
    · have hq : 0 < q := by assumption
      have ho : (q % 2 == 1) = true := by assumption
      go_round
      case rel => exact ⟨_, _, _, rfl, rfl, rfl, u64_lo _, u64_hi _, by omega, by omega, u64_lo _, u64_hi _, Lib.hid (times_odd _ _ _ _ _ H.out (by simpa using ho))⟩
      case measure => simp [intOf]; omega
    · have hq : 0 < q := by assumption
      have ho : (q % 2 == 1) = false := by assumption
      go_round
      case rel => exact ⟨_, _, _, rfl, rfl, rfl, u64_lo _, u64_hi _, by omega, by omega, r1, r2, Lib.hid (times_even _ _ _ _ _ H.out (by simpa using ho))⟩
      case measure => simp [intOf]; omega
    · have hq : q ≤ 0 := by assumption
      have hz : q = 0 := by omega
      subst hz
      have h := H.out
      go_ret
      refine ⟨ret_int ?_, rfl⟩
      rw [← h, Int.mul_zero, Int.add_zero, u64_is]
      omega

theorem u64_tdiv1 (y : Int) : IntKind.u64.wrap ((IntKind.u64.wrap y).tdiv 4294967296) = IntKind.u64.wrap y / 4294967296 := by
  have a := u64_lo y
  have b := u64_hi y
  rw [Int.tdiv_eq_ediv_of_nonneg a, u64_is (IntKind.u64.wrap y / 4294967296)]
  omega
theorem u64_tdiv2 (y : Int) : IntKind.u64.wrap ((IntKind.u64.wrap y).tdiv 536870912) = IntKind.u64.wrap y / 536870912 := by
  have a := u64_lo y
  have b := u64_hi y
  rw [Int.tdiv_eq_ediv_of_nonneg a, u64_is (IntKind.u64.wrap y / 536870912)]
  omega
set_option maxRecDepth 100000 in
theorem mixOf_any (s n : Int) (w : World) (h1 : 0 ≤ s) (h2 : s ≤ 18446744073709551615) :
    Calls Try.prog 28 #[.int .u64 s, .int .i64 n] w fun e w' => e = .returned (.int .u64 (mixV s n)) ∧ w = w' := by
  go_enter Try.func28, Try.ntmps28
  have n1 := u64_lo n
  have n2 := u64_hi n
  go_wp2_with fail
  refine (times_any _ _ _ n1 n2 (by omega) (by omega)).mono ?_
  rintro e w' ⟨rfl, rfl⟩
  go_wp2_with fail
  refine (times_any _ _ _ (bits_lo_u64 _ _ _) (bits_hi_u64 _ _ _) (by omega) (by omega)).mono ?_
  rintro e w' ⟨rfl, rfl⟩
  go_wp2_with fail
  go_ret
  refine ⟨ret_int ?_, rfl⟩
  unfold mixV
  rw [u64_tdiv1, u64_tdiv2]
end Go.Proofs.Ytdbipmidjdhjpaa
