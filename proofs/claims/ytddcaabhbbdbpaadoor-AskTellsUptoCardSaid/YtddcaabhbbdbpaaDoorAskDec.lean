/- Contract: the document's Decimal, of a number that is not below zero. -/
import Derived.Test.YtddcaabhbbdbpaaDoorBtsP
import Derived.Lib.ItoaNum
namespace Go.Proofs.YtddcaabhbbdbpaaDoor
open Go.ChangeShapes Go.WideShapes Go.ChangeAt Go.RowKit
set_option linter.unusedVariables false
open Tp
/-- a number's digits -/
def dec (u : Nat) : Bs := Lib.decDigits u
theorem dec_small {u : Nat} (h : u < 10) : dec u = [UInt8.ofNat (48 + u)] := by
  unfold dec
  rw [Lib.decDigits, dif_pos h]
theorem dec_big {u : Nat} (h : ¬ u < 10) : dec u = dec (u / 10) ++ [UInt8.ofNat (48 + u % 10)] := by
  show Lib.decDigits u = _
  rw [Lib.decDigits, dif_neg h]
  rfl
theorem dec_len : ∀ (k u : Nat), u < 10 ^ (k + 1) → (dec u).length ≤ k + 1
  | 0, u, h => by rw [dec_small (by simpa using h)]; simp
  | k + 1, u, h => by
    by_cases h1 : u < 10
    · rw [dec_small h1]; simp
    · rw [dec_big h1, List.length_append]
      have := dec_len k (u / 10) (by rw [Nat.pow_succ] at h; omega)
      simp; omega
/-- a digit, as text -/
def bdg (d : Int) : ByteArray := ⟨#[(48 + d).toNat.toUInt8]⟩
theorem ten_d {d : Int} (h1 : 0 ≤ d) (h2 : d < 10) : d = 0 ∨ d = 1 ∨ d = 2 ∨ d = 3 ∨ d = 4 ∨ d = 5 ∨ d = 6 ∨ d = 7 ∨ d = 8 ∨ d = 9 := by omega
theorem ten_size' : (⟨#[48, 49, 50, 51, 52, 53, 54, 55, 56, 57]⟩ : ByteArray).size = 10 := rfl
theorem cut_dg {d : Int} (h1 : 0 ≤ d) (h2 : d < 10) : (⟨#[48, 49, 50, 51, 52, 53, 54, 55, 56, 57]⟩ : ByteArray).extract d.toNat (d + 1).toNat = bdg d := by
  rcases ten_d h1 h2 with rfl | rfl | rfl | rfl | rfl | rfl | rfl | rfl | rfl | rfl <;> rfl
theorem bdg_bts {u : Nat} : bdg (((u % 10 : Nat) : Int)) = bts [UInt8.ofNat (48 + u % 10)] := by
  unfold bdg bts
  congr 1
set_option maxRecDepth 20000 in
set_option maxHeartbeats 4000000 in
theorem plain_all : ∀ (N u : Nat) (w : World), u < N → u < 10000000000000000000 → Calls Tryd.prog 27 #[.int .u64 (u : Int)] w fun e w' => e = .returned (.string (bts (dec u))) ∧ Below w.heap.size w w' := by
  intro N
  induction N with
  | zero => intro u w h; omega
  | succ N ih =>
    intro u w hN hu
    have HIH := Lib.hid ih
    clear ih
    obtain ⟨d, hd⟩ : ∃ d : Int, d = ((u % 10 : Nat) : Int) := ⟨_, rfl⟩
    have hd0 : 0 ≤ d := by omega
    have hd1 : d < 10 := by omega
    have HBD : Hid (bdg d = bts [UInt8.ofNat (48 + u % 10)]) := Lib.hid (by rw [hd]; exact bdg_bts)
    have hm : (u : Int) % 10 = d := by omega
    have hw1 : IntKind.u64.wrap (d + 1) = d + 1 := IntWalk.u64_in _ (by omega)
    have hc := cut_dg hd0 hd1
    have hz := ten_size'
    obtain ⟨D, hD⟩ : ∃ D, bdg d = D := ⟨_, rfl⟩
    rw [hD] at hc HBD
    have hds : D.size = 1 := by rw [← hD]; rfl
    obtain ⟨V, hV⟩ : ∃ V, bts (dec u) = V := ⟨_, rfl⟩
    have HV := Lib.hid hV
    rw [hV]
    by_cases h9 : u < 10
    · have HR : Hid (D = V) := Lib.hid (by rw [← HV.out, dec_small h9, HBD.out, Nat.mod_eq_of_lt h9])
      have h9' : ¬ ((9 : Int) < (u : Int)) := by omega
      clear hd hD hV h9
      go_enter Tryd.func27, Tryd.ntmps27
      go_wp2_with fail
      go_ret
      exact ⟨by rw [HR.out]; rfl, Below.refl _ _⟩
    · have HC := Lib.hid (HIH.out (u / 10) w (by omega) (by omega))
      have hq : (u : Int) / 10 = ((u / 10 : Nat) : Int) := by omega
      have hw2 : IntKind.u64.wrap ((u / 10 : Nat) : Int) = ((u / 10 : Nat) : Int) := IntWalk.u64_in _ (by omega)
      obtain ⟨q, hqq⟩ : ∃ q, u / 10 = q := ⟨_, rfl⟩
      rw [hqq] at hq HC hw2
      obtain ⟨Q, hQ⟩ : ∃ Q, bts (dec q) = Q := ⟨_, rfl⟩
      have hqs : Q.size ≤ 19 := by rw [← hQ, bts_size]; exact dec_len 18 q (by omega)
      have HR : Hid (Q ++ D = V) := Lib.hid (by rw [← HV.out, dec_big h9, HBD.out, ← hQ, bts_append, hqq])
      have h9' : (9 : Int) < (u : Int) := by omega
      rw [hQ] at HC
      clear hd hD hV h9 hQ hqq
      go_enter Tryd.func27, Tryd.ntmps27
      go_wp2_with fail
      refine Calls.mono HC.out ?_
      rintro e' W ⟨rfl, h1⟩
      go_wp2_with fail
      go_ret
      exact ⟨by rw [HR.out]; rfl, h1⟩
set_option maxRecDepth 20000 in
set_option maxHeartbeats 4000000 in
theorem Decimal_any (u : Nat) (w : World) (hu : u ≤ 1099511627776) : Calls Tryd.prog 17 #[.int .i64 (u : Int)] w fun e w' => e = .returned (.string (bts (dec u))) ∧ Below w.heap.size w w' := by
  have HC := Lib.hid (plain_all (u + 1) u w (by omega) (by omega))
  obtain ⟨V, hV⟩ : ∃ V, bts (dec u) = V := ⟨_, rfl⟩
  rw [hV] at HC ⊢
  have h0 : ¬ ((u : Int) < 0) := by omega
  have hw2 : IntKind.u64.wrap (u : Int) = (u : Int) := IntWalk.u64_in _ (by omega)
  clear hV
  go_enter Tryd.func17, Tryd.ntmps17
  go_wp2_with fail
  refine Calls.mono HC.out ?_
  rintro e' W ⟨rfl, h1⟩
  go_wp2_with fail
  go_ret
  exact ⟨rfl, h1⟩
end Go.Proofs.YtddcaabhbbdbpaaDoor
