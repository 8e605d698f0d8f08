/- Contract: the document's level of a share, bit by bit. -/
import Derived.Test.YtfjoakhcgpckgaaShareSplit
namespace Go.Proofs.Ytfjoakhcgpckgaa
open Go.ChangeShapes Go.WideShapes Go.ChangeAt Go.RowKit
set_option linter.unusedVariables false
open Sh
/-- a level L, to which c more cannot be added -/
structure Bit (all : Int) (D : List Int) (j : Nat) (L b : Int) : Prop where
  lo : 0 ≤ L
  hi : L ≤ m40
  fits : up D L ≤ all
  most : ∀ c : Int, c = ((2 ^ j : Nat) : Int) → m40 < L + c ∨ all < up D (L + c)
  bit : b = ((2 ^ j / 2 : Nat) : Int)
  few : b ≤ m40
theorem Bit.pos {all : Int} {D : List Int} {j : Nat} {L b : Int} (h : Bit all D j L b) : 0 ≤ b ∧ (0 < b ↔ 0 < j) := by
  rw [h.bit]
  cases j with
  | zero => simp
  | succ j =>
    have h1 : 2 ^ (j + 1) / 2 = 2 ^ j := by rw [Nat.pow_succ]; omega
    rw [h1]
    have := Nat.two_pow_pos j
    omega
theorem Bit.half {all : Int} {D : List Int} {j : Nat} {L b : Int} (h : Bit all D (j + 1) L b) : b = ((2 ^ j : Nat) : Int) ∧ b / 2 = ((2 ^ j / 2 : Nat) : Int) := by
  have h1 : 2 ^ (j + 1) / 2 = 2 ^ j := by rw [Nat.pow_succ]; omega
  have h2 := h.bit
  rw [h1] at h2
  exact ⟨h2, by rw [h2]; rfl⟩
theorem Bit.stay {all : Int} {D : List Int} {j : Nat} {L b : Int} (h : Bit all D (j + 1) L b) (hb : m40 < L + b ∨ all < up D (L + b)) : Bit all D j L (b / 2) := by
  obtain ⟨h1, h2⟩ := h.half
  refine ⟨h.lo, h.hi, h.fits, fun c hc => ?_, h2, ?_⟩
  · rw [hc, ← h1]; exact hb
  · have := h.few; have := h.pos.1; unfold m40 at *; omega
theorem Bit.more {all : Int} {D : List Int} {j : Nat} {L b : Int} (h : Bit all D (j + 1) L b) (h3 : L + b ≤ m40) (h4 : up D (L + b) ≤ all) : Bit all D j (L + b) (b / 2) := by
  obtain ⟨h1, h2⟩ := h.half
  have h5 := h.pos.1
  refine ⟨by have := h.lo; omega, h3, h4, fun c hc => ?_, h2, ?_⟩
  · have h6 := h.most (2 * b) (by rw [h1, Nat.pow_succ]; omega)
    rw [hc, ← h1, show L + b + b = L + 2 * b from by omega]
    exact h6
  · have := h.few; unfold m40 at *; omega
theorem Bit.done {all : Int} {D : List Int} {L b : Int} (h : Bit all D 0 L b) : Lv all D L := ⟨h.lo, h.hi, h.fits, fun hl => by
  have := h.most 1 rfl
  unfold m40 at *
  omega⟩
theorem Bit.start {all : Int} {D : List Int} (hall : 0 ≤ all) (hD : ∀ x, x ∈ D → 0 ≤ x ∧ x ≤ m40) : Bit all D 41 0 1099511627776 :=
  ⟨by omega, by unfold m40; omega, by rw [up_zero hD]; exact hall, fun c hc => .inl (by rw [hc]; unfold m40; omega), rfl, by unfold m40; omega⟩
set_option maxRecDepth 20000 in
set_option maxHeartbeats 1600000 in
theorem rLevel_any (all : Int) (D : List Int) (a : Option Addr) (n cap : Nat) (w : World) (hall : 0 ≤ all) (hn : n = D.length) (h4 : n ≤ 100) (hD : Vals w a (ints64 D)) (hok : ∀ x, x ∈ D → 0 ≤ x ∧ x ≤ m40) :
    Calls Try.prog 78 #[.int .i64 all, .slice a n cap] w fun e w' => ∃ v, e = .returned (.int .i64 v) ∧ Lv all D v ∧ w' = w := by
  have HD := Lib.hid hD
  have HN := Lib.hid hn
  have HO := Lib.hid hok
  have HB0 := Lib.hid (Bit.start (D := D) hall hok)
  clear hD hn hok
  go_enter Try.func78, Try.ntmps78
  go_wp2_with fail
  go_loopg [5, 6] 41 (fun gk x y wr => ∃ (j : Nat) (L b : Int), j ≤ gk ∧ x = .int .i64 L ∧ y = .int .i64 b ∧ Hid (Bit all D j L b) ∧ wr = w)
  case atStart => exact ⟨41, 0, _, by omega, rfl, rfl, HB0, rfl⟩
  case round =>
    clear HB0
    obtain ⟨j, L, b, hg, rfl, rfl, HB, hw⟩ := hrel
    obtain rfl := hw.symm
    cases j with
    | zero =>
      have hb : ¬ b > 0 := by have := HB.out.pos; omega
      go_wp2_with fail
      go_ret
      exact ⟨L, rfl, HB.out.done, rfl⟩
    | succ j =>
      have hb : b > 0 := by have := HB.out.pos; omega
      have hL0 : 0 ≤ L := HB.out.lo
      have hL1 : L ≤ 1099511627776 := HB.out.hi
      have hb1 : b ≤ 1099511627776 := HB.out.few
      obtain ⟨b2, hb2⟩ : ∃ b2, b / 2 = b2 := ⟨_, rfl⟩
      have hb3 : b.tdiv 2 = b2 := by rw [Int.tdiv_eq_ediv_of_nonneg (by omega)]; exact hb2
      have hb4 : 0 ≤ b2 ∧ b2 ≤ 1099511627776 := by omega
      obtain ⟨v, hv⟩ : ∃ v, L + b = v := ⟨_, rfl⟩
      have wv : IntKind.i64.wrap v = v := IntWalk.i64_in _ (by omega)
      have HST : Hid (m40 < v ∨ all < up D v → Bit all D j L b2) := Lib.hid (fun h => by rw [← hb2]; exact HB.out.stay (by rwa [hv]))
      have HMO : Hid (v ≤ m40 → up D v ≤ all → Bit all D j v b2) := Lib.hid (fun h1 h2 => by rw [← hb2, ← hv]; exact HB.out.more (by rwa [hv]) (by rwa [hv]))
      have hv0 : 0 ≤ v := by omega
      obtain ⟨gq, rfl⟩ : ∃ q, q = gk := ⟨_, rfl⟩
      by_cases hvm : 1099511627776 < v
      · have HB2 := Lib.hid (HST.out (.inl (by unfold m40; omega)))
        have hvm2 : v > 1099511627776 := hvm
        go_wp2_with fail
        go_roundg (gq - 1)
        case measure => omega
        case rel => exact ⟨j, L, b2, by omega, rfl, rfl, HB2, rfl⟩
      · have hvm2 : ¬ v > 1099511627776 := by omega
        go_wp2_with fail
        go_loopg [7, 20] n (fun gk y x wr => ∃ (q : Nat) (s : Int), q + gk = n ∧ x = .int .i64 (q : Int) ∧ y = .int .i64 s ∧ Hid (s = up (D.take q) v) ∧ wr = w)
        case atStart => exact ⟨0, 0, by omega, rfl, rfl, Lib.hid rfl, rfl⟩
        case round =>
          obtain ⟨q, s, hq, rfl, rfl, HQ, hw⟩ := hrel
          obtain rfl := hw.symm
          by_cases hqn : q < n
          · obtain ⟨x, hx⟩ : ∃ x, D[q]? = some x := ⟨_, List.getElem?_eq_getElem (by have := HN.out; omega)⟩
            obtain ⟨ab, off, rfl, hlt, c1⟩ := i64at HD.out hx
            have hqn2 : (q : Int) < (n : Int) := by omega
            obtain ⟨s2, hs2⟩ : ∃ s2, s + min x v = s2 := ⟨_, rfl⟩
            have HS2 : Hid (s2 = up (D.take (q + 1)) v) := Lib.hid (by rw [up_take hx, ← HQ.out, hs2])
            have hbd := up_bound (take_ok HO.out (q + 1)) hv0
            rw [← HS2.out] at hbd
            have hlen : ((D.take (q + 1)).length : Int) ≤ 100 := by rw [List.length_take]; have := HN.out; omega
            have hb2' : 0 ≤ s2 ∧ s2 ≤ 109951162777600 := by simp only [m40] at hbd; omega
            have ws : IntKind.i64.wrap s2 = s2 := IntWalk.i64_in _ (by omega)
            clear hx hbd hlen
            rcases Int.lt_trichotomy v x with hvx | hvx | hvx
            · have e1 : s + v = s2 := by omega
              have e2 : ¬ x < v := by omega
              have e3 : ¬ x ≤ v := by omega
              clear hs2
              go_wp2_with fail
              go_roundg (gk - 1)
              case measure => omega
              case rel => exact ⟨q + 1, s2, by omega, by simp, rfl, HS2, rfl⟩
            · subst hvx
              have e1 : s + v = s2 := by omega
              clear hs2
              go_wp2_with fail
              go_roundg (gk - 1)
              case measure => omega
              case rel => exact ⟨q + 1, s2, by omega, by simp, rfl, HS2, rfl⟩
            · have e1 : s + x = s2 := by omega
              have e2 : ¬ v < x := by omega
              have e3 : ¬ v ≤ x := by omega
              clear hs2
              go_wp2_with fail
              go_roundg (gk - 1)
              case measure => omega
              case rel => exact ⟨q + 1, s2, by omega, by simp, rfl, HS2, rfl⟩
          · have hqn2 : ¬ (q : Int) < (n : Int) := by omega
            have HV := Lib.hid (show s = up D v from by have h := HQ.out; rwa [List.take_of_length_le (by have := HN.out; omega)] at h)
            by_cases hsa : s ≤ all
            · have HB2 := Lib.hid (HMO.out (by unfold m40; omega) (by rw [← HV.out]; exact hsa))
              go_wp2_with fail
              go_roundg (gq - 1)
              case measure => omega
              case rel => exact ⟨j, v, b2, by omega, rfl, rfl, HB2, rfl⟩
            · have HB2 := Lib.hid (HST.out (.inr (by rw [← HV.out]; omega)))
              go_wp2_with fail
              go_roundg (gq - 1)
              case measure => omega
              case rel => exact ⟨j, L, b2, by omega, rfl, rfl, HB2, rfl⟩
end Go.Proofs.Ytfjoakhcgpckgaa
