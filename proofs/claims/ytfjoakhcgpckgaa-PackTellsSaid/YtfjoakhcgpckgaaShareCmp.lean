/- Contract: the closure that puts the greater rest first. -/
import Derived.Test.YtfjoakhcgpckgaaDownward
import Derived.Test.YtfjoakhcgpckgaaStableWalk
import Derived.Test.YtfjoakhcgpckgaaShare
import Derived.BigQuiet
namespace Go.Proofs.Ytfjoakhcgpckgaa
open Go.ChangeShapes Go.WideShapes Go.ChangeAt Go.RowKit
set_option linter.unusedVariables false
open St
/-- numbers without a sign, as a row -/
def rsts (D : List Int) : List Value := D.map fun x => .int .u64 x
def cmpI (x y : Int) : Int := if x < y then -1 else if y < x then 1 else 0
def wholeC (D : List Int) (i k : Int) : Int := cmpI (D.getD k.toNat 0) (D.getD i.toNat 0)
theorem wholeC_by (D : List Int) (L : List Int) : CmpBy (wholeC D) (kD D) L := by
  intro x y _ _
  unfold wholeC kD cmpI
  by_cases h : D.getD y.toNat 0 < D.getD x.toNat 0
  · rw [if_pos h, decide_eq_true (by omega), decide_eq_true (by omega)]
  · rw [if_neg h]
    split
    · rw [decide_eq_false (by omega), decide_eq_false (by omega)]
    · rw [decide_eq_false (by omega), decide_eq_false (by omega)]
theorem nanU_any (x : Int) (w : World) : Calls Try.prog 204 #[.int .u64 x] w fun e w' => e = .returned (.bool false) ∧ w' = w := by
  go_enter Try.func204, Try.ntmps204
  go_wp2_with fail
  go_ret
  exact ⟨rfl, rfl⟩
theorem cmpU_any (x y : Int) (w : World) : Calls Try.prog 159 #[.int .u64 x, .int .u64 y] w fun e w' => e = .returned (.int .i64 (cmpI x y)) ∧ w' = w := by
  have hn := Lib.hid (fun x w => nanU_any x w)
  rcases Int.lt_trichotomy x y with h | h | h
  · have HV := Lib.hid (show (-1 : Int) = cmpI x y from by unfold cmpI; rw [if_pos h])
    go_enter Try.func159, Try.ntmps159
    go_wp2_with (go_at_call 204; refine (hn.out _ _).mono ?_; rintro e w1 ⟨rfl, rfl⟩)
    go_ret
    exact ⟨ret_int HV.out, rfl⟩
  · have HV := Lib.hid (show (0 : Int) = cmpI x y from by unfold cmpI; rw [if_neg (by omega), if_neg (by omega)])
    subst h
    go_enter Try.func159, Try.ntmps159
    go_wp2_with (go_at_call 204; refine (hn.out _ _).mono ?_; rintro e w1 ⟨rfl, rfl⟩)
    go_ret
    exact ⟨ret_int HV.out, rfl⟩
  · have HV := Lib.hid (show (1 : Int) = cmpI x y from by unfold cmpI; rw [if_neg (by omega), if_pos h])
    have h2 : ¬ x < y := by omega
    go_enter Try.func159, Try.ntmps159
    go_wp2_with (go_at_call 204; refine (hn.out _ _).mono ?_; rintro e w1 ⟨rfl, rfl⟩)
    go_ret
    exact ⟨ret_int HV.out, rfl⟩
theorem whole_enters : Enters 158 := by
  intro args w
  have hf := Try.func158
  have h1 : (Try.f158.name == "runtime.NumGoroutine") = false := by kernel_rfl
  have h2 : Try.f158.name ≠ "runtime.NumGoroutine" := by simpa using h1
  obtain ⟨c, hb⟩ : ∃ c, Try.f158.body = some c := ⟨_, rfl⟩
  simp [callFunc, hf, h2, hb]
/-- the captured row -/
structure RestAt (c b : Nat) (off m cap : Nat) (D : List Int) (w : World) : Prop where
  ptr : w.cell? ⟨c, 0, none⟩ = some (.slice (some ⟨b, off, none⟩) m cap)
  len : m = D.length
  vals : ∀ (q : Nat) (x : Int), D[q]? = some x → w.cell? ⟨b, off + q, none⟩ = some (.int .u64 x)
theorem whole1_any (c b off m cap : Nat) (D : List Int) (x y : Int) (w : World) (hx : 0 ≤ x ∧ x < m) (hy : 0 ≤ y ∧ y < m) (h : RestAt c b off m cap D w) :
    Calls Try.prog 158 #[.int .i64 x, .int .i64 y, .pointer (some ⟨c, 0, none⟩)] w fun e w' => e = .returned (.int .i64 (wholeC D x y)) ∧ Drawn w w' := by
  obtain ⟨p, rfl⟩ : ∃ p : Nat, x = (p : Int) := ⟨x.toNat, by omega⟩
  obtain ⟨q, rfl⟩ : ∃ q : Nat, y = (q : Int) := ⟨y.toNat, by omega⟩
  obtain ⟨u, hu⟩ : ∃ u, D[p]? = some u := ⟨_, List.getElem?_eq_getElem (by have := h.len; omega)⟩
  obtain ⟨v, hv⟩ : ∃ v, D[q]? = some v := ⟨_, List.getElem?_eq_getElem (by have := h.len; omega)⟩
  have c1 := h.ptr
  have c2 := h.vals p u hu
  have c3 := h.vals q v hv
  have HV := Lib.hid (show cmpI v u = wholeC D p q from by unfold wholeC; simp only [Int.toNat_natCast, List.getD_eq_getElem?_getD, hu, hv, Option.getD_some])
  have h1 : (p : Int) < (m : Int) := hx.2
  have h2 : (q : Int) < (m : Int) := hy.2
  have h1n : p < m := by omega
  have h2n : q < m := by omega
  obtain ⟨z, hz⟩ : ∃ z, cmpI v u = z := ⟨_, rfl⟩
  have hc := Lib.hid (show ∀ w, Calls Try.prog 159 #[.int .u64 v, .int .u64 u] w fun e w' => e = .returned (.int .i64 z) ∧ w = w' from fun w => (cmpU_any v u w).mono fun e w' h => ⟨by rw [h.1, hz], h.2.symm⟩)
  have HV2 := Lib.hid (hz.symm.trans HV.out)
  clear hu hv h hz hx hy
  go_enter Try.func158, Try.ntmps158
  go_wp2_with fail
  go_quiet ((go_at_call 159; first | exact quiet_left (hc.out _) | exact quiet_add_left (hc.out _)))
  go_wp2
  go_ret
  exact ⟨ret_int HV2.out, Drawn.drewN _ _⟩
end Go.Proofs.Ytfjoakhcgpckgaa
