/- Contracts: the greatest and the least of a row, where a number stands first. -/
import Derived.Test.YtfjoakhcgpckgaaWorkM
import Derived.Test.YtfjoakhcgpckgaaShare
namespace Go.Proofs.Ytfjoakhcgpckgaa
open Go.ChangeShapes Go.WideShapes Go.ChangeAt Go.RowKit
set_option linter.unusedVariables false
open Wk
/-- a row of numbers -/
def RowF (w : World) (b m : Nat) (f : Nat → Int) : Prop := w.rowIs b 2 m (fun j => .int .i64 (f j))
theorem RowF.at {w : World} {b m : Nat} {f : Nat → Int} (h : RowF w b m f) {i : Nat} (hi : i < m) : w.cell? ⟨b, i, none⟩ = some (.int .i64 (f i)) := World.rowIs.cell h hi
theorem mx_one {f : Nat → Int} (h : 0 ≤ f 0) : mx f 1 = f 0 := by simp [mx]; omega
/-- the least of the first m -/
structure Mn (f : Nat → Int) (m : Nat) (v : Int) : Prop where
  le : ∀ j, j < m → v ≤ f j
  is : ∃ j, j < m ∧ v = f j
theorem Mn.one (f : Nat → Int) : Mn f 1 (f 0) := ⟨fun j hj => (by
  obtain rfl : j = 0 := by omega
  exact Int.le_refl _), 0, by omega, rfl⟩
theorem Mn.next {f : Nat → Int} {m : Nat} {v : Int} (h : Mn f m v) : Mn f (m + 1) (min v (f m)) := by
  refine ⟨fun j hj => ?_, ?_⟩
  · rcases Nat.lt_or_ge j m with h1 | h1
    · have := h.le j h1; omega
    · obtain rfl : j = m := by omega
      omega
  · by_cases h1 : v ≤ f m
    · obtain ⟨j, hj, e⟩ := h.is
      exact ⟨j, by omega, by omega⟩
    · exact ⟨m, by omega, by omega⟩
set_option maxRecDepth 20000 in
set_option maxHeartbeats 1600000 in
theorem max_any (b m cap : Nat) (f : Nat → Int) (w : World) (hr : RowF w b m f) (hm : 0 < m) (hm2 : m ≤ 1000) (h0 : ∀ i, i < m → 0 ≤ f i) :
    Calls Try.prog 55 #[.slice (some ⟨b, 0, none⟩) m cap] w fun e w' => e = .returned (.int .i64 (mx f m)) ∧ w' = w := by
  have HR := Lib.hid hr
  have c0 := hr.at hm
  have HX : Hid (f 0 = mx f 1) := Lib.hid (mx_one (h0 0 hm)).symm
  have hmi : ¬ (m : Int) < 1 := by omega
  have hmi2 : (0 : Int) < (m : Int) := by omega
  obtain ⟨f0, hf0⟩ : ∃ x, f 0 = x := ⟨_, rfl⟩
  rw [hf0] at HX c0
  clear hr h0 hf0
  go_enter Try.func55, Try.ntmps55
  go_wp2_with fail
  go_loopg [3, 4] (m - 1) (fun gk y x wr => ∃ (i : Nat) (v : Int), i + gk = m ∧ 1 ≤ i ∧ x = .int .i64 (i : Int) ∧ y = .int .i64 v ∧ Hid (v = mx f i) ∧ wr = w)
  case atStart => exact ⟨1, f0, by omega, by omega, rfl, rfl, HX, rfl⟩
  case round =>
    obtain ⟨i, v, hi, hi1, rfl, rfl, HV, rfl⟩ := hrel
    by_cases him : i < m
    · have him2 : (i : Int) < (m : Int) := by omega
      have hi0 : (0 : Int) ≤ (i : Int) := by omega
      have c1 := HR.out.at him
      obtain ⟨x, hx⟩ : ∃ x, f i = x := ⟨_, rfl⟩
      obtain ⟨u, hu⟩ : ∃ u, max v x = u := ⟨_, rfl⟩
      have HU : Hid (u = mx f (i + 1)) := Lib.hid (by unfold mx; rw [← HV.out, hx, hu])
      rw [hx] at c1
      clear hx
      rcases Int.lt_trichotomy v x with h | h | h
      · obtain rfl : x = u := by omega
        have e1 : ¬ x < v := by omega
        have e2 : ¬ x ≤ v := by omega
        clear hu
        go_wp2_with fail
        go_roundg (gk - 1)
        case measure => omega
        case rel => exact ⟨i + 1, x, by omega, by omega, by simp, rfl, HU, rfl⟩
      · subst h
        obtain rfl : v = u := by omega
        clear hu
        go_wp2_with fail
        go_roundg (gk - 1)
        case measure => omega
        case rel => exact ⟨i + 1, v, by omega, by omega, by simp, rfl, HU, rfl⟩
      · obtain rfl : v = u := by omega
        have e1 : ¬ v < x := by omega
        have e2 : ¬ v ≤ x := by omega
        clear hu
        go_wp2_with fail
        go_roundg (gk - 1)
        case measure => omega
        case rel => exact ⟨i + 1, v, by omega, by omega, by simp, rfl, HU, rfl⟩
    · have him2 : ¬ (i : Int) < (m : Int) := by omega
      obtain rfl : i = m := by omega
      go_wp2_with fail
      go_ret
      exact ⟨ret_int HV.out, rfl⟩
set_option maxRecDepth 20000 in
set_option maxHeartbeats 1600000 in
theorem min_any (b m cap : Nat) (f : Nat → Int) (w : World) (hr : RowF w b m f) (hm : 0 < m) (hm2 : m ≤ 1000) :
    Calls Try.prog 189 #[.slice (some ⟨b, 0, none⟩) m cap] w fun e w' => (∃ v, e = .returned (.int .i64 v) ∧ Mn f m v) ∧ w' = w := by
  have HR := Lib.hid hr
  have c0 := hr.at hm
  have HX : Hid (Mn f 1 (f 0)) := Lib.hid (Mn.one f)
  have hmi : ¬ (m : Int) < 1 := by omega
  have hmi2 : (0 : Int) < (m : Int) := by omega
  obtain ⟨f0, hf0⟩ : ∃ x, f 0 = x := ⟨_, rfl⟩
  rw [hf0] at HX c0
  clear hr hf0
  go_enter Try.func189, Try.ntmps189
  go_wp2_with fail
  go_loopg [3, 4] (m - 1) (fun gk y x wr => ∃ (i : Nat) (v : Int), i + gk = m ∧ 1 ≤ i ∧ x = .int .i64 (i : Int) ∧ y = .int .i64 v ∧ Hid (Mn f i v) ∧ wr = w)
  case atStart => exact ⟨1, f0, by omega, by omega, rfl, rfl, HX, rfl⟩
  case round =>
    obtain ⟨i, v, hi, hi1, rfl, rfl, HV, rfl⟩ := hrel
    by_cases him : i < m
    · have him2 : (i : Int) < (m : Int) := by omega
      have hi0 : (0 : Int) ≤ (i : Int) := by omega
      have c1 := HR.out.at him
      obtain ⟨x, hx⟩ : ∃ x, f i = x := ⟨_, rfl⟩
      obtain ⟨u, hu⟩ : ∃ u, min v x = u := ⟨_, rfl⟩
      have HU : Hid (Mn f (i + 1) u) := Lib.hid (by rw [← hu, ← hx]; exact HV.out.next)
      rw [hx] at c1
      clear hx
      rcases Int.lt_trichotomy v x with h | h | h
      · obtain rfl : v = u := by omega
        have e1 : ¬ x < v := by omega
        have e2 : ¬ x ≤ v := by omega
        clear hu
        go_wp2_with fail
        go_roundg (gk - 1)
        case measure => omega
        case rel => exact ⟨i + 1, v, by omega, by omega, by simp, rfl, HU, rfl⟩
      · subst h
        obtain rfl : v = u := by omega
        clear hu
        go_wp2_with fail
        go_roundg (gk - 1)
        case measure => omega
        case rel => exact ⟨i + 1, v, by omega, by omega, by simp, rfl, HU, rfl⟩
      · obtain rfl : x = u := by omega
        have e1 : ¬ v < x := by omega
        have e2 : ¬ v ≤ x := by omega
        clear hu
        go_wp2_with fail
        go_roundg (gk - 1)
        case measure => omega
        case rel => exact ⟨i + 1, x, by omega, by omega, by simp, rfl, HU, rfl⟩
    · have him2 : ¬ (i : Int) < (m : Int) := by omega
      obtain rfl : i = m := by omega
      go_wp2_with fail
      go_ret
      exact ⟨⟨v, rfl, HV.out⟩, rfl⟩
/-- where a number stands first -/
structure Fst (f : Nat → Int) (m : Nat) (v : Int) (k : Nat) : Prop where
  lt : k < m
  is : f k = v
  fst : ∀ j, j < k → f j ≠ v
set_option maxRecDepth 20000 in
set_option maxHeartbeats 1600000 in
theorem indexF_any (b m cap : Nat) (f : Nat → Int) (v : Int) (w : World) (hr : RowF w b m f) (hm2 : m ≤ 1000) (hv : ∃ j, j < m ∧ f j = v) :
    Calls Try.prog 188 #[.slice (some ⟨b, 0, none⟩) m cap, .int .i64 v] w fun e w' => (∃ k : Nat, e = .returned (.int .i64 (k : Int)) ∧ Fst f m v k) ∧ w' = w := by
  have HR := Lib.hid hr
  have HV := Lib.hid hv
  clear hr hv
  go_enter Try.func188, Try.ntmps188
  go_wp2_with fail
  go_loopg [8] m (fun gk x wr => ∃ i : Nat, i + gk = m ∧ x = .int .i64 (i : Int) ∧ Hid (∀ j, j < i → f j ≠ v) ∧ wr = w)
  case atStart => exact ⟨0, by omega, rfl, Lib.hid (fun j hj => by omega), rfl⟩
  case round =>
    obtain ⟨i, hi, rfl, HN, rfl⟩ := hrel
    by_cases him : i < m
    · have him2 : (i : Int) < (m : Int) := by omega
      have hi0 : (0 : Int) ≤ (i : Int) := by omega
      have c1 := HR.out.at him
      obtain ⟨x, hx⟩ : ∃ x, f i = x := ⟨_, rfl⟩
      rw [hx] at c1
      have HX := Lib.hid hx
      clear hx
      by_cases hxv : v = x
      · have hb : (v == x) = true := by simp [hxv]
        have HF : Hid (Fst f m v i) := Lib.hid ⟨him, by rw [HX.out, hxv], HN.out⟩
        have HXV := Lib.hid hxv
        clear hxv
        go_wp2_with fail
        go_ret
        exact ⟨⟨i, rfl, HF.out⟩, rfl⟩
      · have hb : (v == x) = false := by simp [hxv]
        have HN2 : Hid (∀ j, j < i + 1 → f j ≠ v) := Lib.hid (fun j hj => by
          rcases Nat.lt_or_ge j i with h1 | h1
          · exact HN.out j h1
          · obtain rfl : j = i := by omega
            rw [HX.out]; exact fun e => hxv e.symm)
        clear hxv
        go_wp2_with fail
        go_roundg (gk - 1)
        case measure => omega
        case rel => exact ⟨i + 1, by omega, by simp, HN2, rfl⟩
    · obtain rfl : i = m := by omega
      obtain ⟨j, hj, e⟩ := HV.out
      exact (HN.out j hj e).elim
theorem Fst.min {f : Nat → Int} {m k : Nat} {v : Int} (h : Fst f m v k) (hv : Mn f m v) : FMin f m k :=
  ⟨h.lt, fun j hj => by rw [h.is]; exact hv.le j hj, fun j hj => by
    have h1 := hv.le j (Nat.lt_trans hj h.lt)
    have h2 := h.fst j hj
    rw [h.is]; omega⟩
set_option maxRecDepth 20000 in
set_option maxHeartbeats 1600000 in
theorem most_any (b m cap : Nat) (f : Nat → Int) (w : World) (hr : RowF w b m f) (hm2 : m ≤ 1000) (h0 : ∀ i, i < m → 0 ≤ f i) :
    Calls Try.prog 133 #[.slice (some ⟨b, 0, none⟩) m cap] w fun e w' => e = .returned (.int .i64 (mx f m)) ∧ w' = w := by
  have HR := Lib.hid hr
  clear hr h0
  go_enter Try.func133, Try.ntmps133
  go_wp2_with fail
  go_loopg [3, 8] m (fun gk y x wr => ∃ (i : Nat) (v : Int), i + gk = m ∧ x = .int .i64 (i : Int) ∧ y = .int .i64 v ∧ Hid (v = mx f i) ∧ wr = w)
  case atStart => exact ⟨0, 0, by omega, rfl, rfl, Lib.hid rfl, rfl⟩
  case round =>
    obtain ⟨i, v, hi, rfl, rfl, HV, rfl⟩ := hrel
    by_cases him : i < m
    · have him2 : (i : Int) < (m : Int) := by omega
      have hi0 : (0 : Int) ≤ (i : Int) := by omega
      have c1 := HR.out.at him
      obtain ⟨x, hx⟩ : ∃ x, f i = x := ⟨_, rfl⟩
      obtain ⟨u, hu⟩ : ∃ u, max v x = u := ⟨_, rfl⟩
      have HU : Hid (u = mx f (i + 1)) := Lib.hid (by unfold mx; rw [← HV.out, hx, hu])
      rw [hx] at c1
      clear hx
      rcases Int.lt_trichotomy v x with h | h | h
      · obtain rfl : x = u := by omega
        have e1 : ¬ x < v := by omega
        have e2 : ¬ x ≤ v := by omega
        clear hu
        go_wp2_with fail
        go_roundg (gk - 1)
        case measure => omega
        case rel => exact ⟨i + 1, x, by omega, by simp, rfl, HU, rfl⟩
      · subst h
        obtain rfl : v = u := by omega
        clear hu
        go_wp2_with fail
        go_roundg (gk - 1)
        case measure => omega
        case rel => exact ⟨i + 1, v, by omega, by simp, rfl, HU, rfl⟩
      · obtain rfl : v = u := by omega
        have e1 : ¬ v < x := by omega
        have e2 : ¬ v ≤ x := by omega
        clear hu
        go_wp2_with fail
        go_roundg (gk - 1)
        case measure => omega
        case rel => exact ⟨i + 1, v, by omega, by simp, rfl, HU, rfl⟩
    · have him2 : ¬ (i : Int) < (m : Int) := by omega
      obtain rfl : i = m := by omega
      go_wp2_with fail
      go_ret
      exact ⟨ret_int HV.out, rfl⟩
end Go.Proofs.Ytfjoakhcgpckgaa
