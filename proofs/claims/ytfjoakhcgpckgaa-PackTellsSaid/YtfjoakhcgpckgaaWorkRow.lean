/- Contracts: a row of numbers that may have room behind it; the rest of a row; the greatest of a row. -/
import Derived.Test.YtfjoakhcgpckgaaWorkMin
import Derived.Test.YtfjoakhcgpckgaaOwn
namespace Go.Proofs.Ytfjoakhcgpckgaa
open Go.ChangeShapes Go.WideShapes Go.ChangeAt Go.RowKit
set_option linter.unusedVariables false
open Wk
/-- a row of numbers that may have room behind it -/
structure RowG (w : World) (b m : Nat) (f : Nat → Int) : Prop where
  cell : ∀ i, i < m → w.cell? ⟨b, i, none⟩ = some (.int .i64 (f i))
  fz : ∀ i, w.frozen? ⟨b, i, none⟩ = false
  lt : b < w.heap.size
theorem RowF.g {w : World} {b m : Nat} {f : Nat → Int} (h : RowF w b m f) : RowG w b m f := ⟨fun i hi => h.at hi, fun i => World.rowIs.frozen h i, World.rowIs.lt h⟩
theorem RowG.below {w w' : World} {b m : Nat} {f : Nat → Int} (h : RowG w b m f) {B : Nat} (hb : Below B w w') (hB : b < B) : RowG w' b m f :=
  ⟨fun i hi => (hb.cell (p := ⟨b, i, none⟩) hB).trans (h.cell i hi), fun i => (hb.frozen (p := ⟨b, i, none⟩) hB).trans (h.fz i), Nat.lt_of_lt_of_le h.lt hb.size⟩
theorem RowG.own {w : World} {H b cap m : Nat} {f : Nat → Int} (h : w.ownsRow H 2 1 (.slice (some ⟨b, 0, none⟩) m cap) m ((List.range m).map fun j => .int .i64 (f j))) : RowG w b m f :=
  ⟨fun i hi => ownF.cell (f := fun j => .int .i64 (f j)) h hi, fun i => h.frozenAt i, (h.lt b rfl).2⟩
theorem RowG.set {w : World} {b m : Nat} {f : Nat → Int} (h : RowG w b m f) (i : Nat) (x : Int) : RowG (w.setCell ⟨b, i, none⟩ (.int .i64 (f i + x))) b m (put f i x) := by
  refine ⟨fun j hj => ?_, fun j => by simpa using h.fz j, by simpa using h.lt⟩
  by_cases e : j = i
  · subst e
    have := World.cell?_setCell_same' w ⟨b, j, none⟩ (.int .i64 (f j + x)) (by rw [h.cell j hj]; rfl)
    simp only [put, if_true]
    exact this
  · rw [World.cell?_setCell_other _ _ _ _ (by intro h; have := congrArg Addr.off h; simp only at this; exact e this.symm)]
    simp only [put, if_neg e]
    exact h.cell j hj
/-- numbers that lie below a bound -/
def VB (B : Nat) (w : World) (a : Option Addr) (xs : List Int) : Prop := 0 < xs.length → ∃ b off, a = some ⟨b, off, none⟩ ∧ b < B ∧ ∀ (i : Nat) (v : Int), xs[i]? = some v → w.cell? ⟨b, off + i, none⟩ = some (.int .i64 v)
theorem VB.of {w : World} {a : Option Addr} {D : List Int} (h : Vals w a (ints64 D)) {B : Nat} (hB : w.heap.size ≤ B) : VB B w a D := fun hp => by
  obtain ⟨b, off, h1, h2, h3⟩ := h (by simpa [ints64] using hp)
  exact ⟨b, off, h1, by omega, fun i v hi => h3 i _ (by rw [ints64, List.getElem?_map, hi]; rfl)⟩
theorem VB.below {B B' : Nat} {w w' : World} {a : Option Addr} {D : List Int} (h : VB B w a D) (hb : Below B' w w') (hB : B ≤ B') : VB B w' a D := fun hp => by
  obtain ⟨b, off, h1, h2, h3⟩ := h hp
  exact ⟨b, off, h1, h2, fun i v hi => (hb.cell (p := ⟨b, off + i, none⟩) (show b < B' from by omega)).trans (h3 i v hi)⟩
theorem VB.low {B B' : Nat} {w : World} {a : Option Addr} {D : List Int} (h : VB B w a D) (hB : B ≤ B') : VB B' w a D := fun hp => by
  obtain ⟨b, off, h1, h2, h3⟩ := h hp
  exact ⟨b, off, h1, by omega, h3⟩
theorem VB.tail {B : Nat} {w : World} {b off cap : Nat} {x : Int} {D : List Int} (h : VB B w (some ⟨b, off, none⟩) (x :: D)) (hc : D.length + 1 ≤ cap) : VB B w (some (if cap = 1 then ⟨b, off, none⟩ else ⟨b, off + 1, none⟩)) D := fun hp => by
  obtain ⟨b', off', h1, h2, h3⟩ := h (by simp)
  cases h1
  rw [if_neg (by omega)]
  exact ⟨b, off + 1, rfl, h2, fun i v hi => by
    rw [show off + 1 + i = off + (i + 1) from by omega]
    exact h3 (i + 1) v (by simpa using hi)⟩
set_option maxRecDepth 20000 in
set_option maxHeartbeats 1600000 in
theorem mostG_any (b m cap : Nat) (f : Nat → Int) (w : World) (hr : RowG w b m f) (hm2 : m ≤ 1000) :
    Calls Try.prog 133 #[.slice (some ⟨b, 0, none⟩) m cap] w fun e w' => e = .returned (.int .i64 (mx f m)) ∧ w' = w := by
  have HR := Lib.hid hr
  clear hr
  go_enter Try.func133, Try.ntmps133
  go_wp2_with fail
  go_loopg [3, 8] m (fun gk y x wr => ∃ (i : Nat) (v : Int), i + gk = m ∧ x = .int .i64 (i : Int) ∧ y = .int .i64 v ∧ Hid (v = mx f i) ∧ wr = w)
  case atStart => exact ⟨0, 0, by omega, rfl, rfl, Lib.hid rfl, rfl⟩
  case round =>
    obtain ⟨i, v, hi, rfl, rfl, HV, rfl⟩ := hrel
    by_cases him : i < m
    · have him2 : (i : Int) < (m : Int) := by omega
      have hi0 : (0 : Int) ≤ (i : Int) := by omega
      have c1 := HR.out.cell i him
      obtain ⟨x, hx⟩ : ∃ x, f i = x := ⟨_, rfl⟩
      obtain ⟨u, hu⟩ : ∃ u, max v x = u := ⟨_, rfl⟩
      have HU : Hid (u = mx f (i + 1)) := Lib.hid (by unfold mx; rw [← HV.out, hx, hu])
      rw [hx] at c1
      clear hx
      rcases Int.lt_trichotomy v x with h | h | h
      · obtain rfl : x = u := by omega
        have e1 : ¬ x < v := by omega
        have e2 : ¬ x ≤ v := by omega
        clear hu
        go_wp2_with fail
        go_roundg (gk - 1)
        case measure => omega
        case rel => exact ⟨i + 1, x, by omega, by simp, rfl, HU, rfl⟩
      · subst h
        obtain rfl : v = u := by omega
        clear hu
        go_wp2_with fail
        go_roundg (gk - 1)
        case measure => omega
        case rel => exact ⟨i + 1, v, by omega, by simp, rfl, HU, rfl⟩
      · obtain rfl : v = u := by omega
        have e1 : ¬ v < x := by omega
        have e2 : ¬ v ≤ x := by omega
        clear hu
        go_wp2_with fail
        go_roundg (gk - 1)
        case measure => omega
        case rel => exact ⟨i + 1, v, by omega, by simp, rfl, HU, rfl⟩
    · have him2 : ¬ (i : Int) < (m : Int) := by omega
      obtain rfl : i = m := by omega
      go_wp2_with fail
      go_ret
      exact ⟨ret_int HV.out, rfl⟩
end Go.Proofs.Ytfjoakhcgpckgaa
