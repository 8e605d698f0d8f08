/- RetryBuckets: contracts of Have, BucketFault and Holds. -/
import Derived.Test.YtdbipmidjdhjpaaBase
namespace Go.Proofs.Ytdbipmidjdhjpaa
open Go.ChangeShapes Go.WideShapes Go.ChangeAt Go.RowKit
set_option linter.unusedVariables false

def mhi (x y : Int) : Int := x * y / 18446744073709551616
def mlo (x y : Int) : Int := x * y % 18446744073709551616
theorem mhi_nonneg {x y : Int} (hx : 0 ≤ x) (hy : 0 ≤ y) : 0 ≤ mhi x y := by
  have := Int.mul_nonneg hx hy
  unfold mhi; omega
theorem mlo_nonneg (x y : Int) : 0 ≤ mlo x y := by unfold mlo; omega
theorem mlo_lt (x y : Int) : mlo x y ≤ 18446744073709551615 := by unfold mlo; omega
theorem mhi_small {x y : Int} (hx : 0 ≤ x) (hy : 0 ≤ y) (h : x * y ≤ 1099511627776) : ¬ 0 < mhi x y := by unfold mhi; omega
theorem mlo_small {x y : Int} (hx : 0 ≤ x) (hy : 0 ≤ y) (h : ¬ 0 < mhi x y) : mlo x y = x * y := by
  have := Int.mul_nonneg hx hy
  unfold mhi at h; unfold mlo; omega

theorem mul64 (x y : Int) (hx : 0 ≤ x) (hx' : x ≤ 1099511627776) (hy : 0 ≤ y) (hy' : y ≤ 1099511627776) (w : World) :
    Calls Try.prog 58 #[.int .u64 x, .int .u64 y] w fun e w' => e = .returned (.tuple #[.int .u64 (mhi x y), .int .u64 (mlo x y)]) ∧ w = w' := by
  obtain ⟨n, rfl⟩ := Int.eq_ofNat_of_zero_le hx
  obtain ⟨m, rfl⟩ := Int.eq_ofNat_of_zero_le hy
  refine (Try.bits_Mul64 n m (by omega) (by omega) w).mono fun e w' ⟨h1, h2⟩ => ⟨?_, h2.symm⟩
  rw [h1]
  simp [mhi, mlo]

def bad (s r h a : Int) : Bool := decide (s < 1 ∨ s > 1099511627776 ∨ r < 0 ∨ r > 1099511627776 ∨ h < 0 ∨ h > s ∨ a < 0 ∨ a > 1099511627776)
theorem bad_no {s r h a : Int} (hb : bad s r h a = false) : 1 ≤ s ∧ s ≤ 1099511627776 ∧ 0 ≤ r ∧ r ≤ 1099511627776 ∧ 0 ≤ h ∧ h ≤ s ∧ 0 ≤ a ∧ a ≤ 1099511627776 := by
  unfold bad at hb; simp at hb; omega
theorem bad_yes {s r h a : Int} (hb : bad s r h a = true) : s < 1 ∨ s > 1099511627776 ∨ r < 0 ∨ r > 1099511627776 ∨ h < 0 ∨ h > s ∨ a < 0 ∨ a > 1099511627776 := by
  unfold bad at hb; simpa using hb

/-- what is wrong with a bucket and a time -/
def bfault (s r h a now : Int) : Int := if bad s r h a then 4 else if now < a then 11 else if now > 1099511627776 then 4 else 0
/-- what a bucket holds -/
def holdsV (s r h a now : Int) : Int := if s - h < r * (now - a) then s else h + r * (now - a)

set_option maxHeartbeats 1000000 in
theorem have_bad (s r h a now : Int) (w : World) (hb : bad s r h a = true) :
    Calls Try.prog 18 #[.agg #[.int .i64 s, .int .i64 r, .int .i64 h, .int .i64 a], .int .i64 now] w fun e w' => e = .returned (.tuple #[.int .i64 0, .int .i64 4]) ∧ Below w.heap.size w w' := by
  have H := Lib.hid (bad_yes hb)
  clear hb
  go_enter Try.func18, Try.ntmps18
  go_wp2_with fail
  all_goals first | (exfalso; have := H.out; omega) | skip
  all_goals
    go_ret2
    exact ⟨rfl, by go_grown⟩

set_option maxHeartbeats 1000000 in
theorem have_late (s r h a now : Int) (w : World) (hb : bad s r h a = false) (hn : now < a) :
    Calls Try.prog 18 #[.agg #[.int .i64 s, .int .i64 r, .int .i64 h, .int .i64 a], .int .i64 now] w fun e w' => e = .returned (.tuple #[.int .i64 0, .int .i64 11]) ∧ Below w.heap.size w w' := by
  obtain ⟨b1, b2, b3, b4, b5, b6, b7, b8⟩ := bad_no hb
  clear hb
  go_enter Try.func18, Try.ntmps18
  go_wp2
  go_ret2
  exact ⟨rfl, by go_grown⟩

set_option maxHeartbeats 1000000 in
theorem have_over (s r h a now : Int) (w : World) (hb : bad s r h a = false) (hn : a ≤ now) (hm : 1099511627776 < now) :
    Calls Try.prog 18 #[.agg #[.int .i64 s, .int .i64 r, .int .i64 h, .int .i64 a], .int .i64 now] w fun e w' => e = .returned (.tuple #[.int .i64 0, .int .i64 4]) ∧ Below w.heap.size w w' := by
  obtain ⟨b1, b2, b3, b4, b5, b6, b7, b8⟩ := bad_no hb
  clear hb
  go_enter Try.func18, Try.ntmps18
  go_wp2
  go_ret2
  exact ⟨rfl, by go_grown⟩

set_option maxHeartbeats 1000000 in
theorem have_good (s r h a now : Int) (w : World) (hb : bad s r h a = false) (hn : a ≤ now) (hm : now ≤ 1099511627776) :
    Calls Try.prog 18 #[.agg #[.int .i64 s, .int .i64 r, .int .i64 h, .int .i64 a], .int .i64 now] w fun e w' => e = .returned (.tuple #[.int .i64 (holdsV s r h a now), .int .i64 0]) ∧ Below w.heap.size w w' := by
  obtain ⟨b1, b2, b3, b4, b5, b6, b7, b8⟩ := bad_no hb
  clear hb
  have m1 := mhi_nonneg (x := r) (y := now - a) (by omega) (by omega)
  have m2 := mlo_nonneg r (now - a)
  have m3 := mlo_lt r (now - a)
  have m4 := Lib.hid (mlo_small (x := r) (y := now - a) (by omega) (by omega))
  have m5 := Lib.hid (mhi_small (x := r) (y := now - a) (by omega) (by omega))
  go_enter Try.func18, Try.ntmps18
  go_wp2_with (go_at_call 58; refine (mul64 _ _ (by omega) (by omega) (by omega) (by omega) _).mono ?_; rintro e w' ⟨rfl, rfl⟩)
  · have q1 : mhi r (now - a) ≤ 0 := by assumption
    have q2 : 0 < mhi r (now - a) ∨ s - h < mlo r (now - a) := by assumption
    have q3 := m4.out (by omega)
    go_ret2
    exact ⟨ret_ii (by unfold holdsV; rw [if_pos (by omega)]) rfl, by go_grown⟩
  · have q2 : mhi r (now - a) ≤ 0 ∧ mlo r (now - a) ≤ s - h := by assumption
    have q3 := m4.out (by omega)
    go_ret2
    exact ⟨ret_ii (by unfold holdsV; rw [if_neg (by omega), q3]) rfl, by go_grown⟩
  · have q2 : 0 < mhi r (now - a) := by assumption
    have q3 : ¬ r * (now - a) ≤ 1099511627776 := fun h => by have := m5.out h; omega
    go_ret2
    exact ⟨ret_ii (by unfold holdsV; rw [if_pos (by omega)]) rfl, by go_grown⟩
theorem fault_bad (s r h a now : Int) (w : World) (hb : bad s r h a = true) :
    Calls Try.prog 20 #[.agg #[.int .i64 s, .int .i64 r, .int .i64 h, .int .i64 a], .int .i64 now] w fun e w' => e = .returned (.int .i64 4) ∧ Below w.heap.size w w' := by
  have H := Lib.hid (bad_yes hb)
  clear hb
  go_enter Try.func20, Try.ntmps20
  go_wp2
  all_goals first | (exfalso; have := H.out; omega) | skip
  all_goals
    go_ret
    exact ⟨rfl, by go_grown⟩

theorem fault_late (s r h a now : Int) (w : World) (hb : bad s r h a = false) (hn : now < a) :
    Calls Try.prog 20 #[.agg #[.int .i64 s, .int .i64 r, .int .i64 h, .int .i64 a], .int .i64 now] w fun e w' => e = .returned (.int .i64 11) ∧ Below w.heap.size w w' := by
  obtain ⟨b1, b2, b3, b4, b5, b6, b7, b8⟩ := bad_no hb
  clear hb
  go_enter Try.func20, Try.ntmps20
  go_wp2
  go_ret
  exact ⟨rfl, by go_grown⟩

theorem fault_over (s r h a now : Int) (w : World) (hb : bad s r h a = false) (hn : a ≤ now) (hm : 1099511627776 < now) :
    Calls Try.prog 20 #[.agg #[.int .i64 s, .int .i64 r, .int .i64 h, .int .i64 a], .int .i64 now] w fun e w' => e = .returned (.int .i64 4) ∧ Below w.heap.size w w' := by
  obtain ⟨b1, b2, b3, b4, b5, b6, b7, b8⟩ := bad_no hb
  clear hb
  go_enter Try.func20, Try.ntmps20
  go_wp2
  go_ret
  exact ⟨rfl, by go_grown⟩

theorem fault_good (s r h a now : Int) (w : World) (hb : bad s r h a = false) (hn : a ≤ now) (hm : now ≤ 1099511627776) :
    Calls Try.prog 20 #[.agg #[.int .i64 s, .int .i64 r, .int .i64 h, .int .i64 a], .int .i64 now] w fun e w' => e = .returned (.int .i64 0) ∧ Below w.heap.size w w' := by
  obtain ⟨b1, b2, b3, b4, b5, b6, b7, b8⟩ := bad_no hb
  clear hb
  go_enter Try.func20, Try.ntmps20
  go_wp2
  go_ret
  exact ⟨rfl, by go_grown⟩

theorem holds_zero (s h a now : Int) (w : World) (hb : bad s 0 h a = false) (hn : a ≤ now) (hm : now ≤ 1099511627776) :
    Calls Try.prog 21 #[.agg #[.int .i64 s, .int .i64 0, .int .i64 h, .int .i64 a], .int .i64 now] w fun e w' => e = .returned (.int .i64 (holdsV s 0 h a now)) ∧ Below w.heap.size w w' := by
  obtain ⟨b1, b2, b3, b4, b5, b6, b7, b8⟩ := bad_no hb
  clear hb
  have hv : holdsV s 0 h a now = h := by
    unfold holdsV
    rw [Int.zero_mul, if_neg (by omega), Int.add_zero]
  rw [hv]
  clear hv
  go_enter Try.func21, Try.ntmps21
  go_wp2
  go_ret
  exact ⟨rfl, by go_grown⟩

theorem lt_div_mul {r d q : Int} (hr : 0 < r) (h : q / r < d) : q < r * d := by
  have := Int.lt_mul_of_ediv_lt hr h
  rw [Int.mul_comm]; exact this
theorem le_div_mul {r d q : Int} (hr : 0 < r) (h : d ≤ q / r) : r * d ≤ q := by
  have := (Int.le_ediv_iff_mul_le hr).1 h
  rw [Int.mul_comm]; exact this

theorem holds_pos (s r h a now : Int) (w : World) (hr : 1 ≤ r) (hb : bad s r h a = false) (hn : a ≤ now) (hm : now ≤ 1099511627776) :
    Calls Try.prog 21 #[.agg #[.int .i64 s, .int .i64 r, .int .i64 h, .int .i64 a], .int .i64 now] w fun e w' => e = .returned (.int .i64 (holdsV s r h a now)) ∧ Below w.heap.size w w' := by
  obtain ⟨b1, b2, b3, b4, b5, b6, b7, b8⟩ := bad_no hb
  clear hb
  have hz : (r == 0) = false := by simp; omega
  have l1 := Lib.hid (@lt_div_mul r (now - a) (s - h) (by omega))
  have l2 := Lib.hid (@le_div_mul r (now - a) (s - h) (by omega))
  by_cases hc : (s - h) / r < now - a
  · have hv := Lib.hid (show holdsV s r h a now = s from by unfold holdsV; rw [if_pos (l1.out hc)])
    clear l1 l2
    go_enter Try.func21, Try.ntmps21
    go_wp2
    go_quiet (fail)
    go_wp2
    go_ret
    exact ⟨ret_int (by rw [hv.out]), below_drewN (by go_grown) _⟩
  · have hle := l2.out (by omega)
    have hge := Int.mul_nonneg (a := r) (b := now - a) (by omega) (by omega)
    have hv := Lib.hid (show holdsV s r h a now = h + r * (now - a) from by unfold holdsV; rw [if_neg (by omega)])
    clear l1 l2
    go_enter Try.func21, Try.ntmps21
    go_wp2
    go_quiet (fail)
    go_wp2
    go_ret
    exact ⟨ret_int (by rw [hv.out]; omega), below_drewN (by go_grown) _⟩

def haveV (s r h a now : Int) : Int := if bfault s r h a now = 0 then holdsV s r h a now else 0
theorem have_any (s r h a now : Int) (w : World) :
    Calls Try.prog 18 #[.agg #[.int .i64 s, .int .i64 r, .int .i64 h, .int .i64 a], .int .i64 now] w fun e w' => e = .returned (.tuple #[.int .i64 (haveV s r h a now), .int .i64 (bfault s r h a now)]) ∧ Below w.heap.size w w' := by
  unfold haveV bfault
  by_cases hb : bad s r h a = true
  · simpa [hb] using have_bad s r h a now w hb
  · have hb : bad s r h a = false := by simpa using hb
    by_cases hn : now < a
    · simpa [hb, hn] using have_late s r h a now w hb hn
    · by_cases hm : now > 1099511627776
      · simpa [hb, hn, hm] using have_over s r h a now w hb (by omega) hm
      · simpa [hb, hn, hm] using have_good s r h a now w hb (by omega) (by omega)
theorem fault_any (s r h a now : Int) (w : World) :
    Calls Try.prog 20 #[.agg #[.int .i64 s, .int .i64 r, .int .i64 h, .int .i64 a], .int .i64 now] w fun e w' => e = .returned (.int .i64 (bfault s r h a now)) ∧ Below w.heap.size w w' := by
  unfold bfault
  by_cases hb : bad s r h a = true
  · simpa [hb] using fault_bad s r h a now w hb
  · have hb : bad s r h a = false := by simpa using hb
    by_cases hn : now < a
    · simpa [hb, hn] using fault_late s r h a now w hb hn
    · by_cases hm : now > 1099511627776
      · simpa [hb, hn, hm] using fault_over s r h a now w hb (by omega) hm
      · simpa [hb, hn, hm] using fault_good s r h a now w hb (by omega) (by omega)
theorem bfault_zero {s r h a now : Int} (hf : bfault s r h a now = 0) : bad s r h a = false ∧ a ≤ now ∧ now ≤ 1099511627776 := by
  unfold bfault at hf
  by_cases hb : bad s r h a = true
  · simp [hb] at hf
  · by_cases hn : now < a
    · simp [hb, hn] at hf
    · by_cases hm : now > 1099511627776
      · simp [hb, hn, hm] at hf
      · exact ⟨by simpa using hb, by omega, by omega⟩
theorem holds_any (s r h a now : Int) (w : World) (hf : bfault s r h a now = 0) :
    Calls Try.prog 21 #[.agg #[.int .i64 s, .int .i64 r, .int .i64 h, .int .i64 a], .int .i64 now] w fun e w' => e = .returned (.int .i64 (holdsV s r h a now)) ∧ Below w.heap.size w w' := by
  obtain ⟨hb, hn, hm⟩ := bfault_zero hf
  by_cases hr : r = 0
  · subst hr; exact holds_zero s h a now w hb hn hm
  · have := bad_no hb
    exact holds_pos s r h a now w (by omega) hb hn hm
theorem holdsV_le {s r h a now : Int} (hf : bfault s r h a now = 0) : 0 ≤ holdsV s r h a now ∧ holdsV s r h a now ≤ 1099511627776 := by
  obtain ⟨hb, hn, hm⟩ := bfault_zero hf
  have := bad_no hb
  have := Int.mul_nonneg (a := r) (b := now - a) (by omega) (by omega)
  unfold holdsV
  split <;> omega
end Go.Proofs.Ytdbipmidjdhjpaa
