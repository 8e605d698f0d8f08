/- Contracts: what is needed, its parts, and whether it is good; the program's and the document's. -/
import Derived.Test.YtgpkjlogofpckaaDoorBase
namespace Go.Proofs.YtgpkjlogofpckaaDoor
open Go.ChangeShapes Go.WideShapes Go.ChangeAt Go.RowKit
set_option linter.unusedVariables false

/-- are the three amounts in their bounds? -/
def needB (c m g : Int) : Bool := decide ((0 ≤ c ∧ c ≤ 1099511627776) ∧ (0 ≤ m ∧ m ≤ 1099511627776) ∧ (0 ≤ g ∧ g ≤ 1099511627776))
def needE (c m g : Int) : Int := if needB c m g then 0 else 4
theorem needB_yes {c m g : Int} (h : needB c m g = true) : (0 ≤ c ∧ c ≤ 1099511627776) ∧ (0 ≤ m ∧ m ≤ 1099511627776) ∧ (0 ≤ g ∧ g ≤ 1099511627776) := by simpa [needB] using h
theorem needB_no {c m g : Int} (h : needB c m g = false) : (c < 0 ∨ 1099511627776 < c) ∨ (m < 0 ∨ 1099511627776 < m) ∨ (g < 0 ∨ 1099511627776 < g) := by simp [needB] at h; omega

theorem parts_any (b : Nat) (w : World) : Calls Tryd.prog 14 #[.pointer (some ⟨b, 0, none⟩)] w fun e w' =>
    e = .returned (.slice (some ⟨w.heap.size, 0, none⟩) 3 3) ∧ w' = (w.alloc (.cells #[.string ⟨#[99, 112, 117]⟩, .pointer (some ⟨b, 0, none⟩), .string ⟨#[109, 101, 109]⟩, .pointer (some ⟨b, 1, none⟩), .string ⟨#[103, 112, 117]⟩, .pointer (some ⟨b, 2, none⟩)] 45)).drew := by
  go_enter Tryd.func14, Tryd.ntmps14
  go_wp2
  go_region
  go_wp2
  go_ret
  exact ⟨rfl, rfl⟩

theorem needB_split {c m g : Int} (h : needB c m g = false) : (c < 0 ∨ (0 ≤ c ∧ 1099511627776 < c)) ∨ ((0 ≤ c ∧ c ≤ 1099511627776) ∧ (m < 0 ∨ (0 ≤ m ∧ 1099511627776 < m))) ∨ ((0 ≤ c ∧ c ≤ 1099511627776) ∧ (0 ≤ m ∧ m ≤ 1099511627776) ∧ (g < 0 ∨ (0 ≤ g ∧ 1099511627776 < g))) := by
  have := needB_no h
  omega
set_option maxHeartbeats 1000000 in
theorem Check_any (c m g : Int) (w : World) : Calls Tryd.prog 9 #[.agg #[.int .i64 c, .int .i64 m, .int .i64 g]] w fun e w' => e = .returned (.int .i64 (needE c m g)) ∧ Below w.heap.size w w' := by
  cases hb : needB c m g with
  | true =>
    obtain ⟨⟨c1, c2⟩, ⟨m1, m2⟩, g1, g2⟩ := needB_yes hb
    have HE := Lib.hid (show 0 = needE c m g from by simp [needE, hb])
    clear hb
    go_enter Tryd.func9, Tryd.ntmps9
    go_wp2_with (go_at_call 14; refine (parts_any _ _).mono ?_; rintro e w' ⟨rfl, rfl⟩)
    go_rounds 4
    go_wp2
    go_ret
    exact ⟨ret_int HE.out, by go_grown⟩
  | false =>
    have HN := needB_split hb
    have HE := Lib.hid (show 4 = needE c m g from by simp [needE, hb])
    clear hb
    rcases HN with (h1 | ⟨h1, h2⟩) | ⟨⟨c1, c2⟩, h1 | ⟨h1, h2⟩⟩ | ⟨⟨c1, c2⟩, ⟨m1, m2⟩, h1 | ⟨h1, h2⟩⟩
    all_goals
      go_enter Tryd.func9, Tryd.ntmps9
      go_wp2_with (go_at_call 14; refine (parts_any _ _).mono ?_; rintro e w' ⟨rfl, rfl⟩)
    · go_rounds 1
      go_ret
      exact ⟨ret_int HE.out, by go_grown⟩
    · go_rounds 1
      go_ret
      exact ⟨ret_int HE.out, by go_grown⟩
    · go_rounds 2
      go_ret
      exact ⟨ret_int HE.out, by go_grown⟩
    · go_rounds 2
      go_ret
      exact ⟨ret_int HE.out, by go_grown⟩
    · go_rounds 3
      go_ret
      exact ⟨ret_int HE.out, by go_grown⟩
    · go_rounds 3
      go_ret
      exact ⟨ret_int HE.out, by go_grown⟩

/-- the document's amounts -/
theorem amounts_any (c m g : Int) (w : World) : Calls Tryd.prog 17 #[.agg #[.int .i64 c, .int .i64 m, .int .i64 g]] w fun e w' => e = .returned (.agg #[.int .i64 c, .int .i64 m, .int .i64 g]) ∧ Below w.heap.size w w' := by
  go_enter Tryd.func17, Tryd.ntmps17
  go_wp2
  refine bodyPost_ret (v := .agg #[.int .i64 c, .int .i64 m, .int .i64 g]) (by simp [results, Tryd.results17, go_sem]) rfl ⟨rfl, ?_⟩
  go_grown

theorem idx3 (c m g : Int) : (∀ w : World, (Instr.index 46 (.agg #[.int .i64 c, .int .i64 m, .int .i64 g]) (.int .i64 0)).run Tryd.prog w = .ok (.int .i64 c) w) ∧ (∀ w : World, (Instr.index 46 (.agg #[.int .i64 c, .int .i64 m, .int .i64 g]) (.int .i64 1)).run Tryd.prog w = .ok (.int .i64 m) w) ∧ (∀ w : World, (Instr.index 46 (.agg #[.int .i64 c, .int .i64 m, .int .i64 g]) (.int .i64 2)).run Tryd.prog w = .ok (.int .i64 g) w) :=
  ⟨fun _ => by kernel_rfl, fun _ => by kernel_rfl, fun _ => by kernel_rfl⟩
set_option maxHeartbeats 1000000 in
theorem needFault_any (c m g : Int) (w : World) : Calls Tryd.prog 7 #[.agg #[.int .i64 c, .int .i64 m, .int .i64 g]] w fun e w' => e = .returned (.int .i64 (needE c m g)) ∧ Below w.heap.size w w' := by
  obtain ⟨i0, i1, i2⟩ := idx3 c m g
  cases hb : needB c m g with
  | true =>
    obtain ⟨⟨c1, c2⟩, ⟨m1, m2⟩, g1, g2⟩ := needB_yes hb
    have HE := Lib.hid (show 0 = needE c m g from by simp [needE, hb])
    clear hb
    go_enter Tryd.func7, Tryd.ntmps7
    go_wp2_with (go_at_call 17; refine (amounts_any _ _ _ _).mono ?_; rintro e w1 ⟨rfl, hB⟩; have hB1 : Below w.heap.size w w1 := (show Below w.heap.size w (w.alloc _) by go_grown).trans (hB.mono (by simp)); clear hB)
    go_rounds 4
    go_wp2
    go_ret
    exact ⟨ret_int HE.out, by go_grown⟩
  | false =>
    have HN := needB_split hb
    have HE := Lib.hid (show 4 = needE c m g from by simp [needE, hb])
    clear hb
    rcases HN with (h1 | ⟨h1, h2⟩) | ⟨⟨c1, c2⟩, h1 | ⟨h1, h2⟩⟩ | ⟨⟨c1, c2⟩, ⟨m1, m2⟩, h1 | ⟨h1, h2⟩⟩
    all_goals
      go_enter Tryd.func7, Tryd.ntmps7
      go_wp2_with (go_at_call 17; refine (amounts_any _ _ _ _).mono ?_; rintro e w1 ⟨rfl, hB⟩; have hB1 : Below w.heap.size w w1 := (show Below w.heap.size w (w.alloc _) by go_grown).trans (hB.mono (by simp)); clear hB)
    · go_rounds 1
      go_ret
      exact ⟨ret_int HE.out, by go_grown⟩
    · go_rounds 1
      go_ret
      exact ⟨ret_int HE.out, by go_grown⟩
    · go_rounds 2
      go_ret
      exact ⟨ret_int HE.out, by go_grown⟩
    · go_rounds 2
      go_ret
      exact ⟨ret_int HE.out, by go_grown⟩
    · go_rounds 3
      go_ret
      exact ⟨ret_int HE.out, by go_grown⟩
    · go_rounds 3
      go_ret
      exact ⟨ret_int HE.out, by go_grown⟩
end Go.Proofs.YtgpkjlogofpckaaDoor
