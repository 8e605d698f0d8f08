/- Contracts: are the sets of a cron right? The program's. -/
import Derived.Test.YtdbipmidjdhjpaaDoorCron
import Derived.Deep.RegionHeld3
import Derived.Deep.DeepCutAuto
import Derived.Laws.BitsAllLaws
namespace Go.Proofs.YtdbipmidjdhjpaaDoor
open Go.ChangeShapes Go.WideShapes Go.ChangeAt Go.RowKit
set_option linter.unusedVariables false
/-- the five sets: from where to where their numbers are -/
def loT : List Nat := [0, 0, 1, 1, 0]
def hiT : List Nat := [59, 23, 31, 12, 6]
def lo (i : Nat) : Nat := loT.getD i 0
def hi (i : Nat) : Nat := hiT.getD i 0
/-- is a set right? some number in it, and none outside -/
def fieldB (s i : Nat) : Bool := decide (s ≠ 0) && (List.range 64).all fun n => !bit s n || decide (lo i ≤ n ∧ n ≤ hi i)
def cronB (S : Nat → Nat) : Bool := (List.range 5).all fun i => fieldB (S i) i
def cronE (S : Nat → Nat) : Int := if cronB S then 0 else 3
def cronV (S : Nat → Nat) : Value := .agg #[.int .u64 (S 0 : Nat), .int .u64 (S 1 : Nat), .int .u64 (S 2 : Nat), .int .u64 (S 3 : Nat), .int .u64 (S 4 : Nat)]
def Sets (S : Nat → Nat) : Prop := ∀ i, S i < 18446744073709551616
theorem span_bits {i : Nat} (h : i < 5) : ∀ n, n < 64 → ((spanN (lo i) (hi i)).testBit n = decide (lo i ≤ n ∧ n ≤ hi i)) := by
  have : i = 0 ∨ i = 1 ∨ i = 2 ∨ i = 3 ∨ i = 4 := by omega
  rcases this with rfl | rfl | rfl | rfl | rfl <;> decide +kernel
theorem all_any (b : Nat) (i : Nat) (w : World) (h : i < 5) : Calls Tryd.prog 61 #[.agg #[.pointer (some ⟨b, i, none⟩), .int .i64 (lo i : Nat), .int .i64 (hi i : Nat)]] w fun e w' => e = .returned (.int .u64 (spanN (lo i) (hi i) : Nat)) ∧ Below w.heap.size w w' := by
  go_enter Tryd.func61, Tryd.ntmps61
  go_wp2_with (go_at_call 62; refine Calls.mono (span_any (lo i) (hi i) _ (by
    have : i = 0 ∨ i = 1 ∨ i = 2 ∨ i = 3 ∨ i = 4 := by omega
    rcases this with rfl | rfl | rfl | rfl | rfl <;> decide)) ?_; rintro e w1 ⟨rfl, q, rfl⟩)
  go_ret
  exact ⟨rfl, below_drewN (by go_grown) _⟩
theorem fields_any (b : Nat) (w : World) : Calls Tryd.prog 60 #[.pointer (some ⟨b, 0, none⟩)] w fun e w' =>
    e = .returned (.slice (some ⟨w.heap.size, 0, none⟩) 5 5) ∧ w' = (w.alloc (.cells #[.pointer (some ⟨b, 0, none⟩), .int .i64 0, .int .i64 59, .pointer (some ⟨b, 1, none⟩), .int .i64 0, .int .i64 23, .pointer (some ⟨b, 2, none⟩), .int .i64 1, .int .i64 31, .pointer (some ⟨b, 3, none⟩), .int .i64 1, .int .i64 12, .pointer (some ⟨b, 4, none⟩), .int .i64 0, .int .i64 6] 88)).drew := by
  go_enter Tryd.func60, Tryd.ntmps60
  go_wp2
  go_region
  go_wp2
  go_ret
  exact ⟨rfl, rfl⟩
theorem span_lt {i : Nat} (h : i < 5) : spanN (lo i) (hi i) < 18446744073709551616 := by
  have : i = 0 ∨ i = 1 ∨ i = 2 ∨ i = 3 ∨ i = 4 := by omega
  rcases this with rfl | rfl | rfl | rfl | rfl <;> decide +kernel
theorem bit_high {s : Nat} (hs : s < 18446744073709551616) {n : Nat} (hn : 64 ≤ n) : bit s n = false := by
  have : s < 2 ^ n := Nat.lt_of_lt_of_le hs (by
    have := Nat.pow_le_pow_right (n := 2) (by omega) hn
    simpa using this)
  simp [bit, Nat.div_eq_of_lt this]
theorem zero_bits {a : Nat} (h : ∀ n, a.testBit n = false) : a = 0 := Nat.eq_of_testBit_eq fun n => by simp [h]
/-- no bit of it is outside -/
theorem outside {s i : Nat} (hi5 : i < 5) (hs : s < 18446744073709551616) : (s &&& (18446744073709551615 - spanN (lo i) (hi i)) = 0) ↔ ((List.range 64).all fun n => !bit s n || decide (lo i ≤ n ∧ n ≤ hi i)) = true := by
  have hm := span_lt hi5
  have hb := span_bits hi5
  have hx : ∀ n, (18446744073709551615 - spanN (lo i) (hi i)).testBit n = (decide (n < 64) && !(spanN (lo i) (hi i)).testBit n) := fun n => by
    have := Nat.testBit_two_pow_sub_succ (n := 64) (x := spanN (lo i) (hi i)) (by simpa using hm) n
    rwa [show 2 ^ 64 - (spanN (lo i) (hi i) + 1) = 18446744073709551615 - spanN (lo i) (hi i) from by omega] at this
  constructor
  · intro h
    refine List.all_eq_true.2 fun n hn => ?_
    have hn : n < 64 := by simpa using hn
    have := congrArg (fun a => a.testBit n) h
    simp only [Nat.testBit_and, hx, hb n hn, Nat.zero_testBit, hn, decide_true, Bool.true_and] at this
    rw [bit_test]
    cases h1 : s.testBit n <;> simp_all
  · intro h
    refine zero_bits fun n => ?_
    rw [Nat.testBit_and, hx]
    by_cases hn : n < 64
    · have := List.all_eq_true.1 h n (by simpa using hn)
      rw [bit_test] at this
      rw [hb n hn]
      cases h1 : s.testBit n <;> simp_all
    · simp [hn]
theorem field_no {s i : Nat} (h5 : i < 5) (hs : s < 18446744073709551616) (h0 : s ≠ 0) (h : fieldB s i = false) : (bits .andNot .u64 (s : Int) (spanN (lo i) (hi i) : Nat) != 0) = true := by
  rw [u64_andNot_nat _ _ hs (span_lt h5)]
  have : ¬ (s &&& (18446744073709551615 - spanN (lo i) (hi i)) = 0) := by
    rw [outside h5 hs]
    intro h'
    rw [fieldB, h', Bool.and_true] at h
    simp at h
    exact h0 h
  simpa using this
theorem field_yes {s i : Nat} (h5 : i < 5) (hs : s < 18446744073709551616) (h : fieldB s i = true) : s ≠ 0 ∧ (bits .andNot .u64 (s : Int) (spanN (lo i) (hi i) : Nat) != 0) = false := by
  rw [fieldB, Bool.and_eq_true, ← outside h5 hs] at h
  rw [u64_andNot_nat _ _ hs (span_lt h5), h.2]
  exact ⟨by simpa using h.1, rfl⟩
theorem cron_yes {S : Nat → Nat} (h : ∀ j, j < 5 → fieldB (S j) j = true) : cronB S = true := List.all_eq_true.2 fun j hj => h j (by simpa using hj)
theorem cron_at {S : Nat → Nat} (h : cronB S = true) {j : Nat} (hj : j < 5) : fieldB (S j) j = true := List.all_eq_true.1 h j (by simpa using hj)
theorem cron_no {S : Nat → Nat} {j : Nat} (hj : j < 5) (h : fieldB (S j) j = false) : cronE S = 3 := by
  have : cronB S = false := by
    cases hc : cronB S with
    | false => rfl
    | true => rw [cron_at hc hj] at h; cases h
  simp [cronE, this]
/-- a field: the copy at hand, and the set that it leads to -/
def FieldAt (w : World) (k i b s : Nat) (W : World) : Prop := Below w.heap.size w W ∧ k < W.heap.size ∧ b < W.heap.size ∧ W.cell? ⟨k, i, none⟩ = some (.int .u64 s) ∧ W.cell? ⟨b, 0, none⟩ = some (.pointer (some ⟨k, i, none⟩)) ∧ W.cell? ⟨b, 1, none⟩ = some (.int .i64 (lo i : Nat)) ∧ W.cell? ⟨b, 2, none⟩ = some (.int .i64 (hi i : Nat))
theorem FieldAt.below {w W W' : World} {k i b s : Nat} (h : FieldAt w k i b s W) (hb : Below W.heap.size W W') : FieldAt w k i b s W' := by
  obtain ⟨h0, h1, h2, h3, h4, h5, h6⟩ := h
  exact ⟨h0.trans (hb.mono h0.size), Nat.lt_of_lt_of_le h1 hb.size, Nat.lt_of_lt_of_le h2 hb.size, (hb.cell (p := ⟨k, i, none⟩) h1).trans h3, (hb.cell (p := ⟨b, 0, none⟩) h2).trans h4, (hb.cell (p := ⟨b, 1, none⟩) h2).trans h5, (hb.cell (p := ⟨b, 2, none⟩) h2).trans h6⟩
theorem FieldAt.drew {w W : World} {k i b s : Nat} (h : FieldAt w k i b s W) : FieldAt w k i b s W.drew := h.below (Below.refl _ _).drew
theorem FieldAt.alloc {w W : World} {k i b s : Nat} (h : FieldAt w k i b s W) (o : Obj) : FieldAt w k i b s (W.alloc o) := h.below ((Below.refl _ _).alloc (Nat.le_refl _) _)
theorem FieldAt.tail {w W : World} {k i b s : Nat} (h : FieldAt w k i b s W) : W.cell? ⟨k, i, none⟩ = some (.int .u64 s) ∧ W.cell? ⟨b, 0, none⟩ = some (.pointer (some ⟨k, i, none⟩)) ∧ W.cell? ⟨b, 1, none⟩ = some (.int .i64 (lo i : Nat)) ∧ W.cell? ⟨b, 2, none⟩ = some (.int .i64 (hi i : Nat)) := h.2.2.2
/-- all fields: the row of them, and the sets -/
def FieldsAt (k p : Nat) (S : Nat → Nat) (W : World) : Prop := ∀ i, i < 5 → W.cell? ⟨k, i, none⟩ = some (.int .u64 (S i : Nat)) ∧ W.cell? ⟨p, i * 3, none⟩ = some (.pointer (some ⟨k, i, none⟩)) ∧ W.cell? ⟨p, i * 3 + 1, none⟩ = some (.int .i64 (lo i : Nat)) ∧ W.cell? ⟨p, i * 3 + 2, none⟩ = some (.int .i64 (hi i : Nat))
theorem FieldsAt.below {k p : Nat} {S : Nat → Nat} {W W' : World} (h : FieldsAt k p S W) {B : Nat} (hb : Below B W W') (hk : k < B) (hp : p < B) : FieldsAt k p S W' := fun i hi => by
  obtain ⟨h0, h1, h2, h3⟩ := h i hi
  exact ⟨(hb.cell (p := ⟨k, i, none⟩) hk).trans h0, (hb.cell (p := ⟨p, _, none⟩) hp).trans h1, (hb.cell (p := ⟨p, _, none⟩) hp).trans h2, (hb.cell (p := ⟨p, _, none⟩) hp).trans h3⟩
set_option maxHeartbeats 8000000 in
theorem cCheck_any (S : Nat → Nat) (w : World) (hS : Sets S) : Calls Tryd.prog 52 #[cronV S] w fun e w' => e = .returned (.int .i64 (cronE S)) ∧ Below w.heap.size w w' := by
  have HS := Lib.hid hS
  clear hS
  unfold cronV
  go_enter Tryd.func52, Tryd.ntmps52
  go_wp2_with (go_at_call 60; refine Calls.mono (fields_any _ _) ?_; rintro e w1 ⟨rfl, rfl⟩)
  go_loopw [7] (fun t wr => ∃ i : Nat, i ≤ 5 ∧ t = .int .i64 i ∧ Hid (∀ j, j < i → fieldB (S j) j = true) ∧ Below w.heap.size w wr ∧ w.heap.size + 1 < wr.heap.size ∧ Hid (FieldsAt w.heap.size (w.heap.size + 1) S wr)) (fun t _ => 5 - (intOf t).toNat)
  case atStart =>
    refine ⟨0, by omega, rfl, Lib.hid fun j hj => absurd hj (by omega), by go_grown, by simp, Lib.hid fun i hi5 => ?_⟩
    have : i = 0 ∨ i = 1 ∨ i = 2 ∨ i = 3 ∨ i = 4 := by omega
    rcases this with rfl | rfl | rfl | rfl | rfl <;> (refine ⟨?_, ?_, ?_, ?_⟩ <;> simp [go_sem, lo, hi, loT, hiT])
  case round =>
    obtain ⟨i, hi, rfl, HJ, hB, hsz, HF⟩ := hrel
    by_cases h5 : i < 5
    · obtain ⟨f0, f1, f2, f3⟩ := HF.out i h5
      have hk : w.heap.size < wr.heap.size := by omega
      have hFA : FieldAt wr w.heap.size i wr.heap.size (S i) (wr.alloc (.cells #[.pointer (some ⟨w.heap.size, i, none⟩), .int .i64 (lo i : Nat), .int .i64 (Go.Proofs.YtdbipmidjdhjpaaDoor.hi i : Nat)] 88)) := ⟨by go_grown, by simp; omega, by simp, by simp [go_sem, hk, f0], by simp [go_sem], by simp [go_sem], by simp [go_sem]⟩
      have hs := HS.out i
      go_upto_region 4 with fail
      go_cut [25] (fun v W => v = .bool (!fieldB (S i) i) ∧ Below wr.heap.size wr W)
      case first =>
        have HR : ∀ W, FieldAt wr w.heap.size i wr.heap.size (S i) W → Below wr.heap.size wr W := fun W h => h.1
        generalize S i = s at *
        by_cases h0 : s = 0
        · have HFB := Lib.hid (show fieldB s i = false from by simp [fieldB, h0])
          subst h0
          go_quiet (fail)
          go_wp2_with fail
          go_meet
          exact ⟨by simp [HFB.out], below_drewN (by go_grown) _⟩
        · clear f0 f1 f2 f3
          have h0' : ((s : Int) == 0) = false := by simp; omega
          cases hf : fieldB s i with
          | true =>
            obtain ⟨_, hz⟩ := field_yes h5 hs hf
            have HFB := Lib.hid hf
            clear hf
            go_region_held3 (fun W => W.cell? ⟨w.heap.size, i, none⟩ = some (.int .u64 s) ∧ W.cell? ⟨wr.heap.size, 0, none⟩ = some (.pointer (some ⟨w.heap.size, i, none⟩)) ∧ W.cell? ⟨wr.heap.size, 1, none⟩ = some (.int .i64 (lo i : Nat)) ∧ W.cell? ⟨wr.heap.size, 2, none⟩ = some (.int .i64 (Go.Proofs.YtdbipmidjdhjpaaDoor.hi i : Nat)))
              ((refine FieldAt.tail (show FieldAt wr w.heap.size i wr.heap.size s _ from ?_); repeat (first | with_reducible exact hFA | with_reducible apply FieldAt.drew | with_reducible apply FieldAt.alloc | (with_reducible refine FieldAt.below ?_ (by assumption)))))
              (first
                | (go_at_call 61; refine Calls.mono (all_any _ i _ h5) ?_; rintro e w1 ⟨rfl, hb1⟩))
            all_goals
              go_wp2_with fail
              go_meet
              refine ⟨by simp [HFB.out], HR _ ?_⟩
              (repeat (first | with_reducible exact hFA | with_reducible apply FieldAt.drew | with_reducible apply FieldAt.alloc | (with_reducible refine FieldAt.below ?_ (by assumption))))
          | false =>
            have hz := field_no h5 hs h0 hf
            have HFB := Lib.hid hf
            clear hf
            go_region_held3 (fun W => W.cell? ⟨w.heap.size, i, none⟩ = some (.int .u64 s) ∧ W.cell? ⟨wr.heap.size, 0, none⟩ = some (.pointer (some ⟨w.heap.size, i, none⟩)) ∧ W.cell? ⟨wr.heap.size, 1, none⟩ = some (.int .i64 (lo i : Nat)) ∧ W.cell? ⟨wr.heap.size, 2, none⟩ = some (.int .i64 (Go.Proofs.YtdbipmidjdhjpaaDoor.hi i : Nat)))
              ((refine FieldAt.tail (show FieldAt wr w.heap.size i wr.heap.size s _ from ?_); repeat (first | with_reducible exact hFA | with_reducible apply FieldAt.drew | with_reducible apply FieldAt.alloc | (with_reducible refine FieldAt.below ?_ (by assumption)))))
              (first
                | (go_at_call 61; refine Calls.mono (all_any _ i _ h5) ?_; rintro e w1 ⟨rfl, hb1⟩))
            all_goals
              go_wp2_with fail
              go_meet
              refine ⟨by simp [HFB.out], HR _ ?_⟩
              (repeat (first | with_reducible exact hFA | with_reducible apply FieldAt.drew | with_reducible apply FieldAt.alloc | (with_reducible refine FieldAt.below ?_ (by assumption))))
      case rest =>
        obtain ⟨rfl, hb⟩ := hcut
        have hB2 : Below w.heap.size w wc := hB.trans (hb.mono hB.size)
        have HF2 := Lib.hid (HF.out.below hb (by omega) (by omega))
        have hsz2 : w.heap.size + 1 < wc.heap.size := Nat.lt_of_lt_of_le hsz hb.size
        cases hf : fieldB (S i) i with
        | true =>
          have HJ2 := Lib.hid (show ∀ j, j < i + 1 → fieldB (S j) j = true from fun j hj => by
            by_cases e : j = i
            · subst e; exact hf
            · exact HJ.out j (by omega))
          clear f0 f1 f2 f3 hFA hf
          go_wp2_with fail
          go_roundw
          case rel => exact ⟨i + 1, by omega, rfl, HJ2, hB2, hsz2, HF2⟩
          case measure => simp [intOf]; omega
        | false =>
          have HV := Lib.hid (cron_no h5 hf).symm
          clear f0 f1 f2 f3 hFA hf
          go_wp2_with fail
          go_ret
          exact ⟨ret_int HV.out, hB2⟩
    · have HV := Lib.hid (show (0 : Int) = cronE S from by
        have := cron_yes (S := S) fun j hj => HJ.out j (by omega)
        simp [cronE, this])
      go_wp2_with fail
      go_ret
      exact ⟨ret_int HV.out, hB⟩
end Go.Proofs.YtdbipmidjdhjpaaDoor
