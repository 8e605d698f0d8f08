/- Contracts: are the sets of a cron right, is a set full? The document's. -/
import Derived.Test.YtdbipmidjdhjpaaDoorCronSet
namespace Go.Proofs.YtdbipmidjdhjpaaDoor
open Go.ChangeShapes Go.WideShapes Go.ChangeAt Go.RowKit
set_option linter.unusedVariables false
set_option linter.unusedSimpArgs false
def setsV (S : Nat → Nat) : Value := .agg #[.int .u64 (S 0 : Nat), .int .u64 (S 1 : Nat), .int .u64 (S 2 : Nat), .int .u64 (S 3 : Nat), .int .u64 (S 4 : Nat)]
set_option maxHeartbeats 2000000 in
theorem sets_any (S : Nat → Nat) (w : World) : Calls Tryd.prog 56 #[cronV S] w fun e w' => e = .returned (.tuple #[.agg #[.int .u64 (S 0 : Nat), .int .u64 (S 1 : Nat), .int .u64 (S 2 : Nat), .int .u64 (S 3 : Nat), .int .u64 (S 4 : Nat)], .agg #[.int .i64 0, .int .i64 0, .int .i64 1, .int .i64 1, .int .i64 0], .agg #[.int .i64 59, .int .i64 23, .int .i64 31, .int .i64 12, .int .i64 6]]) ∧ Below w.heap.size w w' := by
  unfold cronV
  go_enter Tryd.func56, Tryd.ntmps56
  go_wp2
  refine bodyPost_ret (v := .tuple #[.agg #[.int .u64 (S 0 : Nat), .int .u64 (S 1 : Nat), .int .u64 (S 2 : Nat), .int .u64 (S 3 : Nat), .int .u64 (S 4 : Nat)], .agg #[.int .i64 0, .int .i64 0, .int .i64 1, .int .i64 1, .int .i64 0], .agg #[.int .i64 59, .int .i64 23, .int .i64 31, .int .i64 12, .int .i64 6]]) (by simp [results, Tryd.results56, go_sem, cell_set]) rfl ⟨rfl, ?_⟩
  go_grown
/-- some number below n in a set -/
def anyB (s n : Nat) : Bool := (List.range n).any fun k => bit s k
theorem anyB_succ (s n : Nat) : anyB s (n + 1) = (anyB s n || bit s n) := by simp [anyB, List.range_succ]
theorem anyB_all {s : Nat} (hs : s < 18446744073709551616) : anyB s 64 = decide (s ≠ 0) := by
  rw [Bool.eq_iff_iff, decide_eq_true_eq]
  constructor
  · intro h h0
    subst h0
    simp [anyB, bit] at h
  · intro h0
    obtain ⟨h1, h2, _⟩ := ctz_facts hs h0
    exact List.any_eq_true.2 ⟨_, by simpa using h1, h2⟩
/-- the numbers below n in a set are within -/
def Within (s i n : Nat) : Prop := ∀ k, k < n → bit s k = true → lo i ≤ k ∧ k ≤ hi i
theorem field_from {s i : Nat} (hs : s < 18446744073709551616) (h : anyB s 64 = true) (hw : Within s i 64) : fieldB s i = true := by
  rw [anyB_all hs] at h
  rw [fieldB, h, Bool.true_and]
  refine List.all_eq_true.2 fun n hn => ?_
  have := hw n (by simpa using hn)
  cases hb : bit s n
  · rfl
  · simpa using this hb
theorem field_none {s i : Nat} (hs : s < 18446744073709551616) (h : anyB s 64 = false) : fieldB s i = false := by
  rw [anyB_all hs] at h
  rw [fieldB, h, Bool.false_and]
theorem field_out {s i n : Nat} (hn : n < 64) (hb : bit s n = true) (h : ¬ (lo i ≤ n ∧ n ≤ hi i)) : fieldB s i = false := by
  cases hf : fieldB s i with
  | false => rfl
  | true =>
    rw [fieldB, Bool.and_eq_true] at hf
    have := List.all_eq_true.1 hf.2 n (by simpa using hn)
    rw [hb] at this
    simp at this
    exact absurd this h
/-- two worlds are one -/
def SameW (a b : World) : Prop := a = b
theorem SameW.refl (a : World) : SameW a a := rfl
theorem SameW.eq {a b : World} (h : SameW a b) : a = b := h
/-- the document's three arrays -/
def ArrsAt (b : Nat) (S : Nat → Nat) (W : World) : Prop := ∀ i, i < 5 → W.cell? ⟨b, i, none⟩ = some (.int .u64 (S i : Nat)) ∧ W.cell? ⟨b + 1, i, none⟩ = some (.int .i64 (lo i : Nat)) ∧ W.cell? ⟨b + 2, i, none⟩ = some (.int .i64 (hi i : Nat))
set_option maxHeartbeats 8000000 in
theorem cronFault_any (S : Nat → Nat) (w : World) (hS : Sets S) : Calls Tryd.prog 39 #[cronV S] w fun e w' => e = .returned (.int .i64 (cronE S)) ∧ Below w.heap.size w w' := by
  have HS := Lib.hid hS
  clear hS
  unfold cronV
  go_enter Tryd.func39, Tryd.ntmps39
  go_upto_region 2 with (go_at_call 56; refine Calls.mono (sets_any S _) ?_; rintro e w1 ⟨rfl, hb1⟩; have hB1 : Below w.heap.size w w1 := Below.trans (by go_grown) (hb1.mono (by simp)); have hs1 := hB1.size)
  go_cut [3, 4, 5, 15] (fun p q r t W => t = .int .i64 0 ∧ ∃ b, p = .pointer (some ⟨b, 0, none⟩) ∧ q = .pointer (some ⟨b + 1, 0, none⟩) ∧ r = .pointer (some ⟨b + 2, 0, none⟩) ∧ Below w.heap.size w W ∧ ArrsAt b S W)
  case first =>
    go_wp2_with fail
    go_meet
    refine ⟨rfl, _, rfl, rfl, rfl, by go_grown, fun i hi5 => ?_⟩
    have : i = 0 ∨ i = 1 ∨ i = 2 ∨ i = 3 ∨ i = 4 := by omega
    rcases this with rfl | rfl | rfl | rfl | rfl <;> (refine ⟨?_, ?_, ?_⟩ <;> simp [go_sem, lo, hi, loT, hiT])
  case rest =>
    obtain ⟨rfl, b, rfl, rfl, rfl, hB, hA⟩ := hcut
    have HA := Lib.hid hA
    clear hA hb1 hB1 hs1
    go_wp2_with fail
    go_loopw [15] (fun t wr => ∃ i : Nat, i ≤ 5 ∧ t = .int .i64 i ∧ Hid (∀ j, j < i → fieldB (S j) j = true) ∧ SameW wr wc) (fun t _ => 5 - (intOf t).toNat)
    case atStart => exact ⟨0, by omega, rfl, Lib.hid fun j hj => absurd hj (by omega), SameW.refl _⟩
    case round =>
      obtain ⟨i, hi5, rfl, HJ, hw⟩ := hrel
      obtain rfl := hw.eq
      clear hw
      by_cases h5 : i < 5
      · obtain ⟨f0, f1, f2⟩ := HA.out i h5
        have hs := HS.out i
        have hd5 : decide ((i : Int) < 5) = true := by simp; omega
        go_wp2_with fail
        go_loopw [7, 18] (fun v t wx => ∃ n : Nat, n ≤ 64 ∧ t = .int .i64 n ∧ v = .bool (anyB (S i) n) ∧ Hid (Within (S i) i n) ∧ SameW wx wr) (fun _ t _ => 64 - (intOf t).toNat)
        case atStart => exact ⟨0, by omega, rfl, rfl, Lib.hid fun k hk => absurd hk (by omega), SameW.refl _⟩
        case round =>
          obtain ⟨n, hn, rfl, rfl, HW, hw⟩ := hrel
          obtain rfl := hw.eq
          clear hw
          by_cases h64 : n < 64
          · have hin : inB (S i) n = bit (S i) n := by rw [inB_eq (by omega) (by omega)]; simp
            have HIN := Lib.hid hin
            have HSU := Lib.hid (anyB_succ (S i) n)
            clear hin
            cases hb : bit (S i) n with
            | true =>
              have HBT := Lib.hid hb
              clear hb
              by_cases hlow : (lo i : Int) ≤ n
              · by_cases htop : (n : Int) ≤ (Go.Proofs.YtdbipmidjdhjpaaDoor.hi i : Nat)
                · have HW2 := Lib.hid (show Within (S i) i (n + 1) from fun k hk hbk => by
                    by_cases e : k = n
                    · subst e; omega
                    · exact HW.out k (by omega) hbk)
                  have HAN := Lib.hid (show anyB (S i) (n + 1) = true from by rw [HSU.out, HBT.out, Bool.or_true])
                  go_wp2_with (go_at_call 57; refine Calls.mono (in_any _ _ _ hs) ?_; rintro e w1 ⟨rfl, rfl⟩; rw [HIN.out, HBT.out])
                  go_roundw
                  case rel => exact ⟨n + 1, by omega, rfl, (by rw [HAN.out]), HW2, SameW.refl _⟩
                  case measure => simp [intOf]; omega
                · have HV := Lib.hid (cron_no h5 (field_out h64 HBT.out (fun h => by omega))).symm
                  go_wp2_with (go_at_call 57; refine Calls.mono (in_any _ _ _ hs) ?_; rintro e w1 ⟨rfl, rfl⟩; rw [HIN.out, HBT.out])
                  go_ret
                  exact ⟨ret_int HV.out, hB⟩
              · have HV := Lib.hid (cron_no h5 (field_out h64 HBT.out (fun h => by omega))).symm
                go_wp2_with (go_at_call 57; refine Calls.mono (in_any _ _ _ hs) ?_; rintro e w1 ⟨rfl, rfl⟩; rw [HIN.out, HBT.out])
                go_ret
                exact ⟨ret_int HV.out, hB⟩
            | false =>
              have HBT := Lib.hid hb
              clear hb
              have HW2 := Lib.hid (show Within (S i) i (n + 1) from fun k hk hbk => by
                by_cases e : k = n
                · subst e; rw [HBT.out] at hbk; cases hbk
                · exact HW.out k (by omega) hbk)
              have HAN := Lib.hid (show anyB (S i) (n + 1) = anyB (S i) n from by rw [HSU.out, HBT.out, Bool.or_false])
              go_wp2_with (go_at_call 57; refine Calls.mono (in_any _ _ _ hs) ?_; rintro e w1 ⟨rfl, rfl⟩; rw [HIN.out, HBT.out])
              go_roundw
              case rel => exact ⟨n + 1, by omega, rfl, (by rw [HAN.out]), HW2, SameW.refl _⟩
              case measure => simp [intOf]; omega
          · have e : n = 64 := by omega
            subst e
            cases ha : anyB (S i) 64 with
            | true =>
              have HJ2 := Lib.hid (show ∀ j, j < i + 1 → fieldB (S j) j = true from fun j hj => by
                by_cases e : j = i
                · subst e; exact field_from hs ha HW.out
                · exact HJ.out j (by omega))
              clear ha
              go_wp2_with fail
              go_roundw
              case rel => exact ⟨i + 1, by omega, rfl, HJ2, SameW.refl _⟩
              case measure => simp [intOf]; omega
            | false =>
              have HV := Lib.hid (cron_no h5 (field_none hs ha)).symm
              clear ha
              go_wp2_with fail
              go_ret
              exact ⟨ret_int HV.out, hB⟩
      · have HV := Lib.hid (show (0 : Int) = cronE S from by
          have := cron_yes (S := S) fun j hj => HJ.out j (by omega)
          simp [cronE, this])
        go_wp2_with fail
        go_ret
        exact ⟨ret_int HV.out, hB⟩
end Go.Proofs.YtdbipmidjdhjpaaDoor
