/- Contract: the lowest bit of a number; the library's. -/
import Derived.Test.YtfjoakhcgpckgaaDoorGraphBits
import Derived.Shelf.Spec.TrailingZeros
namespace Go.Proofs.YtfjoakhcgpckgaaDoor.Gr
open Go.ChangeShapes Go.WideShapes Go.ChangeAt Go.RowKit
set_option linter.unusedVariables false
/-- the library's table lies in its variable -/
def Bru (w : World) : Prop := ∀ j, j < 64 → w.cell? ⟨0, j, none⟩ = some (.int .u8 (Lib.deBruijn64tab.getD j 0 : Nat))
theorem Bru.below {w w' : World} (h : Bru w) {B : Nat} (hb : Below B w w') (hB : 0 < B) : Bru w' := fun j hj => (hb.cell (p := ⟨0, j, none⟩) hB).trans (h j hj)
theorem tz_core (x k idx : Nat) (w : World) (hx0 : ((x : Int) == 0) = false)
    (key : IntKind.u64.wrap (bits BinOp.and IntKind.u64 (x : Int) (IntKind.u64.wrap (-(x : Int))) * 285870213051353865) / 288230376151711744 = (idx : Int))
    (hi : idx < 64) (hk : k < 64) (hcell : w.cell? ⟨0, idx, none⟩ = some (.int .u8 k)) :
    Calls Tryd.prog 48 #[.int .u64 x] w fun e w' => e = .returned (.int .i64 k) ∧ w = w' := by
  go_enter Tryd.func48, Tryd.ntmps48
  go_wp2_with (simp only [key])
  go_ret
  exact ⟨rfl, rfl⟩
/-- what the least number of a set is -/
theorem ctz_bits {x : Nat} (hx : x < 18446744073709551616) (hx0 : x ≠ 0) : Lib.ctz 64 x < 64 ∧ x.testBit (Lib.ctz 64 x) = true ∧ ∀ j, j < Lib.ctz 64 x → x.testBit j = false := by
  obtain ⟨m, h, hk⟩ := Lib.ctzFrom_spec 64 x (by omega) hx
  have e : Lib.ctz 64 x = Lib.ctzFrom 64 x := by simp [Lib.ctz, hx0]
  rw [e]
  generalize Lib.ctzFrom 64 x = k at *
  subst h
  refine ⟨hk, ?_, fun j hj => ?_⟩
  · rw [Nat.testBit_eq_decide_div_mod_eq, Nat.mul_div_cancel_left _ (Nat.two_pow_pos k)]
    simp
  · obtain ⟨d, rfl⟩ := Nat.exists_eq_add_of_lt hj
    rw [Nat.testBit_eq_decide_div_mod_eq, show j + d + 1 = j + (d + 1) from rfl, Nat.pow_add, Nat.mul_assoc, Nat.mul_div_cancel_left _ (Nat.two_pow_pos j), Nat.pow_succ, Nat.mul_comm (2 ^ d) 2, Nat.mul_assoc]
    simp
theorem tz_low (x : Nat) (w : World) (hx : x < 18446744073709551616) (hx0 : x ≠ 0) (hT : Bru w) :
    Calls Tryd.prog 48 #[.int .u64 x] w fun e w' => (∃ p : Nat, e = .returned (.int .i64 (p : Int)) ∧ x.testBit p = true ∧ p < 64 ∧ ∀ j, j < p → x.testBit j = false) ∧ w = w' := by
  obtain ⟨hlow, hk⟩ := Lib.lowest_bit 64 x hx0 hx
  obtain ⟨hi, htab⟩ := Lib.deBruijn64_at _ hk
  have hcell := hT _ hi
  rw [show Lib.deBruijn64tab.getD _ 0 = _ from htab] at hcell
  obtain ⟨h1, h2, h3⟩ := ctz_bits hx hx0
  exact (tz_core x _ _ w (by simp; omega) (tz64_key x _ hx hx0 hlow) hi hk hcell).mono fun e w' ⟨he, hw⟩ => ⟨⟨_, he, h2, h1, h3⟩, hw⟩
end Go.Proofs.YtfjoakhcgpckgaaDoor.Gr
