/- Contracts: cmp.Compare of numbers, cmp.Or of three. -/
import Derived.Test.YtnfmopmcckgfdaaHostLeft
import Derived.Deep.RegionHeld3
namespace Go.Proofs.Ytnfmopmcckgfdaa
open Go.ChangeShapes Go.WideShapes Go.ChangeAt Go.RowKit
set_option linter.unusedVariables false
open Tp
def cmpI (x y : Int) : Int := if x < y then -1 else if y < x then 1 else 0
theorem nanI_any (x : Int) (w : World) : Calls Try.prog 52 #[.int .i64 x] w fun e w' => e = .returned (.bool false) ∧ w' = w := by
  go_enter Try.func52, Try.ntmps52
  go_wp2_with fail
  go_ret
  exact ⟨rfl, rfl⟩
theorem cmpI_any (x y : Int) (w : World) : Calls Try.prog 35 #[.int .i64 x, .int .i64 y] w fun e w' => e = .returned (.int .i64 (cmpI x y)) ∧ w' = w := by
  have hn := Lib.hid (fun x w => nanI_any x w)
  rcases Int.lt_trichotomy x y with h | h | h
  · have HV := Lib.hid (show (-1 : Int) = cmpI x y from by unfold cmpI; rw [if_pos h])
    go_enter Try.func35, Try.ntmps35
    go_wp2_with (go_at_call 52; refine (hn.out _ _).mono ?_; rintro e w1 ⟨rfl, rfl⟩)
    go_ret
    exact ⟨ret_int HV.out, rfl⟩
  · have HV := Lib.hid (show (0 : Int) = cmpI x y from by unfold cmpI; rw [if_neg (by omega), if_neg (by omega)])
    subst h
    go_enter Try.func35, Try.ntmps35
    go_wp2_with (go_at_call 52; refine (hn.out _ _).mono ?_; rintro e w1 ⟨rfl, rfl⟩)
    go_ret
    exact ⟨ret_int HV.out, rfl⟩
  · have HV := Lib.hid (show (1 : Int) = cmpI x y from by unfold cmpI; rw [if_neg (by omega), if_pos h])
    have h2 : ¬ x < y := by omega
    go_enter Try.func35, Try.ntmps35
    go_wp2_with (go_at_call 52; refine (hn.out _ _).mono ?_; rintro e w1 ⟨rfl, rfl⟩)
    go_ret
    exact ⟨ret_int HV.out, rfl⟩
def or3 (x y z : Int) : Int := if x ≠ 0 then x else if y ≠ 0 then y else z
set_option maxHeartbeats 2000000 in
theorem or3_any (x y z : Int) (b : Nat) (w : World) (h0 : w.cell? ⟨b, 0, none⟩ = some (.int .i64 x)) (h1 : w.cell? ⟨b, 1, none⟩ = some (.int .i64 y)) (h2 : w.cell? ⟨b, 2, none⟩ = some (.int .i64 z)) :
    Calls Try.prog 34 #[.slice (some ⟨b, 0, none⟩) 3 3] w fun e w' => e = .returned (.int .i64 (or3 x y z)) ∧ w' = w := by
  by_cases hx : x = 0
  · by_cases hy : y = 0
    · by_cases hz : z = 0
      · have HV := Lib.hid (show (0 : Int) = or3 x y z from by unfold or3; rw [if_neg (by simp [hx]), if_neg (by simp [hy]), hz])
        subst hx hy hz
        go_enter Try.func34, Try.ntmps34
        go_wp2_with fail
        go_rounds 4
        go_wp2_with fail
        go_ret
        exact ⟨ret_int HV.out, rfl⟩
      · have HV := Lib.hid (show z = or3 x y z from by unfold or3; rw [if_neg (by simp [hx]), if_neg (by simp [hy])])
        have hz2 : (z != 0) = true := by simpa using hz
        subst hx hy
        clear hz
        go_enter Try.func34, Try.ntmps34
        go_wp2_with fail
        go_rounds 3
        go_wp2_with fail
        go_ret
        exact ⟨ret_int HV.out, rfl⟩
    · have HV := Lib.hid (show y = or3 x y z from by unfold or3; rw [if_neg (by simp [hx]), if_pos (by simp [hy])])
      have hy2 : (y != 0) = true := by simpa using hy
      subst hx
      clear hy
      go_enter Try.func34, Try.ntmps34
      go_wp2_with fail
      go_rounds 2
      go_wp2_with fail
      go_ret
      exact ⟨ret_int HV.out, rfl⟩
  · have HV := Lib.hid (show x = or3 x y z from by unfold or3; rw [if_pos (by simp [hx])])
    have hx2 : (x != 0) = true := by simpa using hx
    clear hx
    go_enter Try.func34, Try.ntmps34
    go_wp2_with fail
    go_rounds 1
    go_wp2_with fail
    go_ret
    exact ⟨ret_int HV.out, rfl⟩
/-- zeros of an amount, new -/
structure Zr (B : Nat) (w : World) (c : Nat) : Prop where
  ge : B ≤ c
  lt : c < w.heap.size
  c0 : w.cell? ⟨c, 0, none⟩ = some (.int .i64 0)
  c1 : w.cell? ⟨c, 1, none⟩ = some (.int .i64 0)
  c2 : w.cell? ⟨c, 2, none⟩ = some (.int .i64 0)
  f0 : w.frozen? ⟨c, 0, none⟩ = false
  f1 : w.frozen? ⟨c, 1, none⟩ = false
  f2 : w.frozen? ⟨c, 2, none⟩ = false
theorem Zr.below {B c : Nat} {w w' : World} (h : Zr B w c) (hb : Below w.heap.size w w') : Zr B w' c :=
  ⟨h.ge, Nat.lt_of_lt_of_le h.lt hb.size, (hb.cell (p := ⟨c, 0, none⟩) h.lt).trans h.c0, (hb.cell (p := ⟨c, 1, none⟩) h.lt).trans h.c1, (hb.cell (p := ⟨c, 2, none⟩) h.lt).trans h.c2, (hb.frozen (p := ⟨c, 0, none⟩) h.lt).trans h.f0, (hb.frozen (p := ⟨c, 1, none⟩) h.lt).trans h.f1, (hb.frozen (p := ⟨c, 2, none⟩) h.lt).trans h.f2⟩
theorem Zr.made {B : Nat} {w : World} (h : B ≤ w.heap.size) (T : TypeId) : Zr B (w.alloc (.cells #[.int .i64 0, .int .i64 0, .int .i64 0] T)) w.heap.size :=
  ⟨h, top_lt _ _, (top_cell _ _ _ _ _ rfl).trans rfl, (top_cell _ _ _ _ _ rfl).trans rfl, (top_cell _ _ _ _ _ rfl).trans rfl, top_frozen _ _ _ _ _ rfl, top_frozen _ _ _ _ _ rfl, top_frozen _ _ _ _ _ rfl⟩
/-- the rest of a region, behind a letter -/
theorem fold_any {P : Program} {md : Region.Mode} {ops : Array Oper} {Q : Exit → Act → World → Prop} {S : World → Prop} {fuel : Nat} {listed : Array Bool} {a : Act} {w : World} (h : ∀ G, G = wpAnyH P md ops Q S → G fuel listed a w) : wpAnyH P md ops Q S fuel listed a w := h _ rfl
end Go.Proofs.Ytnfmopmcckgfdaa
