/- Contracts: is a set full; does a cron name a day? The program's and the document's. -/
import Derived.Test.YtdbipmidjdhjpaaDoorCronMath
namespace Go.Proofs.YtdbipmidjdhjpaaDoor
open Go.ChangeShapes Go.WideShapes Go.ChangeAt Go.RowKit Civ
set_option linter.unusedVariables false
set_option linter.unusedSimpArgs false
theorem field_in {s i : Nat} (h : fieldB s i = true) {n : Nat} (hn : n < 64) (hb : bit s n = true) : lo i ≤ n ∧ n ≤ hi i := by
  rw [fieldB, Bool.and_eq_true] at h
  have := List.all_eq_true.1 h.2 n (by simpa using hn)
  rw [hb] at this
  simpa using this
theorem full_yes {s i : Nat} (h5 : i < 5) (hs : s < 18446744073709551616) (hf : fieldB s i = true) (h : ∀ n, lo i ≤ n → n ≤ hi i → bit s n = true) : s = spanN (lo i) (hi i) := by
  refine Nat.eq_of_testBit_eq fun n => ?_
  by_cases hn : n < 64
  · rw [span_bits h5 n hn, ← bit_test, Bool.eq_iff_iff, decide_eq_true_eq]
    exact ⟨fun hb => field_in hf hn hb, fun hb => h n hb.1 hb.2⟩
  · rw [← bit_test, ← bit_test, bit_high hs (by omega), bit_high (span_lt h5) (by omega)]
theorem full_no {s i n : Nat} (h5 : i < 5) (hn : n < 64) (h1 : lo i ≤ n) (h2 : n ≤ hi i) (hb : bit s n = false) : s ≠ spanN (lo i) (hi i) := by
  rintro rfl
  rw [bit_test, span_bits h5 n hn] at hb
  simp at hb
  omega
theorem hi_lt {i : Nat} (h5 : i < 5) : hi i < 64 := by
  have : i = 0 ∨ i = 1 ∨ i = 2 ∨ i = 3 ∨ i = 4 := by omega
  rcases this with rfl | rfl | rfl | rfl | rfl <;> decide
theorem lo_le {i : Nat} (h5 : i < 5) : lo i ≤ hi i := by
  have : i = 0 ∨ i = 1 ∨ i = 2 ∨ i = 3 ∨ i = 4 := by omega
  rcases this with rfl | rfl | rfl | rfl | rfl <;> decide
theorem full_any (s i : Nat) (l t : Int) (w : World) (h5 : i < 5) (hs : s < 18446744073709551616) (hf : fieldB s i = true) (hl : l = (lo i : Nat)) (ht : t = (hi i : Nat)) :
    Calls Tryd.prog 63 #[.int .u64 s, .int .i64 l, .int .i64 t] w fun e w' => e = .returned (.bool (decide (s = spanN (lo i) (hi i)))) ∧ w = w' := by
  have HF := Lib.hid hf
  have ht64 := hi_lt h5
  have hlt := lo_le h5
  subst hl ht
  clear hf
  go_enter Tryd.func63, Tryd.ntmps63
  go_wp2_with fail
  go_loopw [7] (fun v wr => ∃ n : Nat, lo i ≤ n ∧ n ≤ hi i + 1 ∧ v = .int .i64 n ∧ Hid (∀ k, lo i ≤ k → k < n → bit s k = true) ∧ SameW wr w) (fun v _ => hi i + 1 - (intOf v).toNat)
  case atStart => exact ⟨lo i, by omega, by omega, rfl, Lib.hid fun k h1 h2 => absurd h2 (by omega), SameW.refl _⟩
  case round =>
    obtain ⟨n, hn1, hn2, rfl, HK, hw⟩ := hrel
    obtain rfl := hw.eq
    clear hw
    by_cases hle : n ≤ hi i
    · have HIN := Lib.hid (show inB s n = bit s n from by rw [inB_eq (by omega) (by omega)]; simp)
      cases hb : bit s n with
      | true =>
        have HB := Lib.hid hb
        have HK2 := Lib.hid (show ∀ k, lo i ≤ k → k < n + 1 → bit s k = true from fun k h1 h2 => by
          by_cases e : k = n
          · subst e; exact hb
          · exact HK.out k h1 (by omega))
        clear hb
        go_wp2_with (go_at_call 57; refine Calls.mono (in_any _ _ _ hs) ?_; rintro e w1 ⟨rfl, rfl⟩; rw [HIN.out, HB.out])
        go_roundw
        case rel => exact ⟨n + 1, by omega, by omega, rfl, HK2, SameW.refl _⟩
        case measure => simp [intOf]; omega
      | false =>
        have HB := Lib.hid hb
        have HV := Lib.hid (full_no h5 (by omega) hn1 hle hb)
        clear hb
        go_wp2_with (go_at_call 57; refine Calls.mono (in_any _ _ _ hs) ?_; rintro e w1 ⟨rfl, rfl⟩; rw [HIN.out, HB.out])
        go_ret
        exact ⟨ret_bool (by simpa using HV.out), rfl⟩
    · have HV := Lib.hid (full_yes h5 hs HF.out (fun k h1 h2 => HK.out k h1 (by omega)))
      go_wp2_with fail
      go_ret
      exact ⟨ret_bool (by simpa using HV.out), rfl⟩
end Go.Proofs.YtdbipmidjdhjpaaDoor
