/- Contracts: is a number in a set of bits, and the least one in it? The program's, the library's and the document's. -/
import Derived.Test.YtdbipmidjdhjpaaDoorCivilDate
import Derived.Shelf.Spec.TrailingZeros
namespace Go.Proofs.YtdbipmidjdhjpaaDoor
open Go.ChangeShapes Go.WideShapes Go.ChangeAt Go.RowKit
set_option linter.unusedVariables false
/-- is n in the set? -/
def bit (s n : Nat) : Bool := decide (s / 2 ^ n % 2 = 1)
theorem bit_test (s n : Nat) : bit s n = s.testBit n := by rw [bit, Nat.testBit_eq_decide_div_mod_eq]
theorem and_one {s n : Nat} (hs : s < 18446744073709551616) : (bits .and .u64 ((s : Int) / 2 ^ n) 1 == 1) = bit s n := by
  have e : ((s : Int) / 2 ^ n) = ((s / 2 ^ n : Nat) : Int) := by simp
  have hl : s / 2 ^ n < 18446744073709551616 := Nat.lt_of_le_of_lt (Nat.div_le_self _ _) hs
  rw [e, show (1 : Int) = ((1 : Nat) : Int) from rfl, bits_and_u64_nat _ 1 hl (by omega), Nat.and_one_is_mod, bit]
  rw [Bool.eq_iff_iff]
  simp
  omega
theorem mod_two {s n : Nat} : ((((s : Int) / 2 ^ n).tmod 2) == 1) = bit s n := by
  have e : ((s : Int) / 2 ^ n) = ((s / 2 ^ n : Nat) : Int) := by simp
  have e2 : (((s / 2 ^ n : Nat) : Int).tmod 2) = ((s / 2 ^ n % 2 : Nat) : Int) := by
    rw [Int.tmod_eq_emod_of_nonneg (Int.natCast_nonneg _)]; rfl
  rw [e, e2, bit, Bool.eq_iff_iff]
  generalize s / 2 ^ n % 2 = k
  simp
  omega
theorem has_any (s : Nat) (n : Int) (w : World) (hs : s < 18446744073709551616) (h0 : 0 ≤ n) (hn : n < 64) : Calls Tryd.prog 53 #[.int .u64 s, .int .i64 n] w fun e w' => e = .returned (.bool (bit s n.toNat)) ∧ w = w' := by
  go_enter Tryd.func53, Tryd.ntmps53
  go_wp2
  go_ret
  exact ⟨ret_bool (and_one hs), rfl⟩
/-- in the set, as the document asks -/
def inB (s : Nat) (n : Int) : Bool := decide (0 ≤ n ∧ n < 64) && bit s n.toNat
theorem inB_eq {s : Nat} {n : Int} (h0 : 0 ≤ n) (hn : n < 64) : inB s n = bit s n.toNat := by simp [inB, h0, hn]
theorem in_any (s : Nat) (n : Int) (w : World) (hs : s < 18446744073709551616) : Calls Tryd.prog 57 #[.int .u64 s, .int .i64 n] w fun e w' => e = .returned (.bool (inB s n)) ∧ w = w' := by
  by_cases h0 : 0 ≤ n
  · by_cases h1 : n < 64
    · have HV := Lib.hid (@inB_eq s n h0 h1)
      go_enter Tryd.func57, Tryd.ntmps57
      go_wp2
      go_ret
      exact ⟨ret_bool (mod_two.trans HV.out.symm), rfl⟩
    · have HV := Lib.hid (show inB s n = false from by simp [inB, h1])
      go_enter Tryd.func57, Tryd.ntmps57
      go_wp2
      go_ret
      exact ⟨ret_bool (by simp [HV.out]; try omega), rfl⟩
  · have HV := Lib.hid (show inB s n = false from by simp [inB, h0])
    go_enter Tryd.func57, Tryd.ntmps57
    go_wp2
    go_ret
    exact ⟨ret_bool (by simp [HV.out]; try omega), rfl⟩

/-- the library's table lies in its variable -/
def Bruijn (w : World) : Prop := TabAt 1 Lib.deBruijn64tab w
theorem Bruijn.below {w w' : World} (h : Bruijn w) {B : Nat} (hb : Below B w w') (hB : 1 < B) : Bruijn w' := fun j hj => (hb.cell (p := ⟨1, j, none⟩) hB).trans (h j hj)
theorem tz_core (x k idx : Nat) (w : World) (hx0 : ((x : Int) == 0) = false)
    (key : IntKind.u64.wrap (bits BinOp.and IntKind.u64 (x : Int) (IntKind.u64.wrap (-(x : Int))) * 285870213051353865) / 288230376151711744 = (idx : Int))
    (hi : idx < 64) (hk : k < 64) (hcell : w.cell? ⟨1, idx, none⟩ = some (.int .u8 k)) :
    Calls Tryd.prog 59 #[.int .u64 x] w fun e w' => e = .returned (.int .i64 k) ∧ w = w' := by
  go_enter Tryd.func59, Tryd.ntmps59
  go_wp2_with (simp only [key])
  go_ret
  exact ⟨rfl, rfl⟩
theorem tz_any (x : Nat) (w : World) (hx : x < 18446744073709551616) (hx0 : x ≠ 0) (hT : Bruijn w) :
    Calls Tryd.prog 59 #[.int .u64 x] w fun e w' => e = .returned (.int .i64 (Lib.ctz 64 x : Nat)) ∧ w = w' := by
  obtain ⟨hlow, hk⟩ := Lib.lowest_bit 64 x hx0 hx
  obtain ⟨hi, htab⟩ := Lib.deBruijn64_at _ hk
  have hcell := hT _ hi
  rw [htab] at hcell
  exact tz_core x _ _ w (by simp; omega) (tz64_key x _ hx hx0 hlow) hi hk hcell
/-- what the least number of a set is -/
theorem ctz_facts {x : Nat} (hx : x < 18446744073709551616) (hx0 : x ≠ 0) : Lib.ctz 64 x < 64 ∧ bit x (Lib.ctz 64 x) = true ∧ ∀ j, j < Lib.ctz 64 x → bit x j = false := by
  obtain ⟨m, h, hk⟩ := Lib.ctzFrom_spec 64 x (by omega) hx
  have e : Lib.ctz 64 x = Lib.ctzFrom 64 x := by simp [Lib.ctz, hx0]
  rw [e]
  generalize Lib.ctzFrom 64 x = k at *
  subst h
  refine ⟨hk, ?_, fun j hj => ?_⟩
  · rw [bit, Nat.mul_div_cancel_left _ (Nat.two_pow_pos k)]
    simp
  · obtain ⟨d, rfl⟩ := Nat.exists_eq_add_of_lt hj
    rw [bit, show j + d + 1 = j + (d + 1) from rfl, Nat.pow_add, Nat.mul_assoc, Nat.mul_div_cancel_left _ (Nat.two_pow_pos j), Nat.pow_succ, Nat.mul_comm (2 ^ d) 2, Nat.mul_assoc]
    simp
/-- the sets of a cron: the numbers from .. to -/
def spanN (low top : Nat) : Nat := 2 ^ (top + 1) - 2 ^ low
theorem span_any (low top : Nat) (w : World) (h : (low, top) ∈ [(0, 59), (0, 23), (1, 31), (1, 12), (0, 6)]) : Calls Tryd.prog 62 #[.int .i64 low, .int .i64 top] w fun e w' => e = .returned (.int .u64 (spanN low top : Nat)) ∧ ∃ q, w' = w.drewN q := by
  simp only [List.mem_cons, Prod.mk.injEq, List.not_mem_nil, or_false] at h
  rcases h with ⟨rfl, rfl⟩ | ⟨rfl, rfl⟩ | ⟨rfl, rfl⟩ | ⟨rfl, rfl⟩ | ⟨rfl, rfl⟩
  all_goals
    go_enter Tryd.func62, Tryd.ntmps62
    go_wp2
    go_quiet (fail)
    go_wp2
    go_ret
    exact ⟨ret_int (by simp [spanN]), _, rfl⟩
end Go.Proofs.YtdbipmidjdhjpaaDoor
