/- Plain facts: fair shares: what is asked for up to a level; the level. -/
import Derived.Test.YtfjoakhcgpckgaaBase
namespace Go.Proofs.Ytfjoakhcgpckgaa.Sh
set_option linter.unusedVariables false
abbrev m40 : Int := 1099511627776
def okS (x : Int) : Bool := decide (0 ≤ x ∧ x ≤ m40)
def shareE (all : Int) (D : List Int) : Int := if all < 0 ∨ m40 < all then 1 else if 100 < D.length then 2 else if D.all okS then 0 else 4
theorem shareE_good {all : Int} {D : List Int} (h : shareE all D = 0) : 0 ≤ all ∧ all ≤ m40 ∧ D.length ≤ 100 ∧ ∀ x, x ∈ D → 0 ≤ x ∧ x ≤ m40 := by
  unfold shareE at h
  split at h
  · cases h
  · split at h
    · cases h
    · split at h
      · rename_i h3
        exact ⟨by omega, by omega, by omega, fun x hx => by simpa [okS] using List.all_eq_true.1 h3 x hx⟩
      · cases h
/-- what is asked for, of none more than a level -/
def up (D : List Int) (v : Int) : Int := (D.map fun x => min x v).sum
theorem up_nil (v : Int) : up [] v = 0 := rfl
theorem up_snoc (D : List Int) (x v : Int) : up (D ++ [x]) v = up D v + min x v := by simp [up]
theorem up_take {D : List Int} {q : Nat} {x : Int} (h : D[q]? = some x) (v : Int) : up (D.take (q + 1)) v = up (D.take q) v + min x v := by
  rw [List.take_add_one, h]
  exact up_snoc _ _ _
theorem up_mono {D : List Int} {v v' : Int} (h : v ≤ v') : up D v ≤ up D v' := by
  induction D with
  | nil => simp [up]
  | cons x D ih =>
    simp only [up, List.map_cons, List.sum_cons] at *
    omega
theorem up_bound {D : List Int} (h : ∀ x, x ∈ D → 0 ≤ x ∧ x ≤ m40) {v : Int} (hv : 0 ≤ v) : 0 ≤ up D v ∧ up D v ≤ D.length * m40 := by
  induction D with
  | nil => simp [up]
  | cons x D ih =>
    have h1 := h x (by simp)
    have h2 := ih (fun y hy => h y (by simp [hy]))
    simp only [up, List.map_cons, List.sum_cons, List.length_cons, m40] at *
    omega
theorem up_zero {D : List Int} (h : ∀ x, x ∈ D → 0 ≤ x ∧ x ≤ m40) : up D 0 = 0 := by
  induction D with
  | nil => rfl
  | cons x D ih =>
    have h1 := h x (by simp)
    have h2 := ih (fun y hy => h y (by simp [hy]))
    simp only [up, List.map_cons, List.sum_cons] at *
    omega
theorem take_ok {D : List Int} (h : ∀ x, x ∈ D → 0 ≤ x ∧ x ≤ m40) (q : Nat) : ∀ x, x ∈ D.take q → 0 ≤ x ∧ x ≤ m40 := fun x hx => h x (List.mem_of_mem_take hx)
/-- the level -/
structure Lv (all : Int) (D : List Int) (v : Int) : Prop where
  lo : 0 ≤ v
  hi : v ≤ m40
  fits : up D v ≤ all
  most : v < m40 → all < up D (v + 1)
theorem Lv.uniq {all : Int} {D : List Int} {v v' : Int} (h : Lv all D v) (h' : Lv all D v') : v = v' := by
  rcases Int.lt_trichotomy v v' with h1 | h1 | h1
  · have h2 := h.most (by have := h'.hi; omega)
    have h3 := up_mono (D := D) (show v + 1 ≤ v' by omega)
    have h4 := h'.fits
    omega
  · exact h1
  · have h2 := h'.most (by have := h.hi; omega)
    have h3 := up_mono (D := D) (show v' + 1 ≤ v by omega)
    have h4 := h.fits
    omega
/-- the search for it, between two levels -/
structure Sch (all : Int) (D : List Int) (i j : Nat) : Prop where
  fits : up D i ≤ all
  most : (j : Int) < m40 → all < up D ((j : Int) + 1)
theorem Sch.done {all : Int} {D : List Int} {i : Nat} (h : Sch all D i i) (hi : (i : Int) ≤ m40) : Lv all D i := ⟨by omega, hi, h.fits, h.most⟩
/-- what is given to the first q, and what is left -/
def part (v : Int) (x left : Int) : Int := min x v + (if v < x ∧ 0 < left then 1 else 0)
def leftB (v : Int) (x left : Int) : Int := left - (if v < x ∧ 0 < left then 1 else 0)
def parts (v : Int) : List Int → Int → List Int
  | [], _ => []
  | x :: D, left => part v x left :: parts v D (leftB v x left)
def leftOf (v : Int) : List Int → Int → Int
  | [], left => left
  | x :: D, left => leftOf v D (leftB v x left)
theorem parts_snoc (v : Int) (x : Int) : ∀ (D : List Int) (left : Int), parts v (D ++ [x]) left = parts v D left ++ [part v x (leftOf v D left)] ∧ leftOf v (D ++ [x]) left = leftB v x (leftOf v D left)
  | [], left => ⟨rfl, rfl⟩
  | y :: D, left => by
    obtain ⟨h1, h2⟩ := parts_snoc v x D (leftB v y left)
    exact ⟨by simp only [List.cons_append, parts, leftOf, h1], by simp only [List.cons_append, leftOf, h2]⟩
theorem parts_length (v : Int) : ∀ (D : List Int) (left : Int), (parts v D left).length = D.length
  | [], _ => rfl
  | x :: D, left => by simp only [parts, List.length_cons, parts_length v D]
theorem leftOf_bound (v : Int) : ∀ (D : List Int) (left : Int), leftOf v D left ≤ left ∧ (0 ≤ left → 0 ≤ leftOf v D left)
  | [], left => ⟨Int.le_refl _, id⟩
  | x :: D, left => by
    obtain ⟨h1, h2⟩ := leftOf_bound v D (leftB v x left)
    unfold leftOf
    unfold leftB at *
    split at h1 <;> split <;> simp_all <;> omega
end Go.Proofs.Ytfjoakhcgpckgaa.Sh
