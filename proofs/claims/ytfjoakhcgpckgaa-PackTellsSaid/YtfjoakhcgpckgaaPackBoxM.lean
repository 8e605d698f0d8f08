/- Plain facts: in which boxes things lie, by any numbers. -/
import Derived.Test.YtfjoakhcgpckgaaPackM
namespace Go.Proofs.Ytfjoakhcgpckgaa.Wk
set_option linter.unusedVariables false
/-- what lies in box b, of the first q -/
def bs (D O : List Int) : Nat → Int → Int
  | 0, _ => 0
  | q + 1, b => bs D O q b + (if O.getD q 0 = b then D.getD q 0 else 0)
def bh (O : List Int) (q : Nat) (b : Int) : Bool := decide (∃ i, i < q ∧ O.getD i 0 = b)
/-- how many boxes, of the first q -/
def bc (O : List Int) : Nat → Nat
  | 0 => 0
  | q + 1 => if bh O q (O.getD q 0) then bc O q else bc O q + 1
theorem bs_le {D : List Int} (hD : ∀ x, x ∈ D → 0 ≤ x) (O : List Int) (b : Int) : ∀ {q r : Nat}, q ≤ r → bs D O q b ≤ bs D O r b := by
  intro q r h
  induction r with
  | zero => obtain rfl : q = 0 := by omega
            exact Int.le_refl _
  | succ r ih =>
    rcases Nat.lt_or_ge q (r + 1) with h1 | h1
    · have h2 := ih (by omega)
      have h3 := getD_nonneg hD r
      show _ ≤ bs D O r b + _
      split <;> omega
    · obtain rfl : q = r + 1 := by omega
      exact Int.le_refl _
theorem bs_nonneg {D : List Int} (hD : ∀ x, x ∈ D → 0 ≤ x) (O : List Int) (q : Nat) (b : Int) : 0 ≤ bs D O q b := by
  have := bs_le hD O b (Nat.zero_le q); simpa [bs] using this
theorem bs_bound {D : List Int} {c : Int} (hc : 0 ≤ c) (hD : ∀ x, x ∈ D → 0 ≤ x ∧ x ≤ c) (O : List Int) (b : Int) : ∀ q, bs D O q b ≤ q * c
  | 0 => by simp [bs]
  | q + 1 => by
    have ih := bs_bound hc hD O b q
    have h : 0 ≤ D.getD q 0 ∧ D.getD q 0 ≤ c := by
      rw [List.getD_eq_getElem?_getD]
      cases h : D[q]? with
      | none => simp; exact hc
      | some x => simpa using hD x (List.mem_of_getElem? h)
    simp only [bs]
    push_cast
    rw [Int.add_mul]
    split <;> omega
theorem bh_next (O : List Int) (q : Nat) (b : Int) : bh O (q + 1) b = (bh O q b || decide (O.getD q 0 = b)) := by
  unfold bh
  rw [← Bool.decide_or]
  congr 1
  apply propext
  constructor
  · rintro ⟨i, hi, e⟩
    rcases Nat.lt_or_ge i q with h | h
    · exact .inl ⟨i, h, e⟩
    · obtain rfl : i = q := by omega
      exact .inr e
  · rintro (⟨i, hi, e⟩ | e)
    · exact ⟨i, by omega, e⟩
    · exact ⟨q, by omega, e⟩
theorem bc_le (O : List Int) : ∀ q, bc O q ≤ q
  | 0 => Nat.le_refl _
  | q + 1 => by have := bc_le O q; unfold bc; split <;> omega
/-- right boxes, as the program looks -/
def gP (D O : List Int) (size : Int) (n : Nat) : Prop := ∀ q, q < n → 0 ≤ O.getD q 0 ∧ bs D O (q + 1) (O.getD q 0) ≤ size
/-- right boxes, as the document looks -/
def gR (D O : List Int) (size : Int) (n : Nat) : Prop := ∀ q, q < n → 0 ≤ O.getD q 0 ∧ bs D O n (O.getD q 0) ≤ size
theorem bs_last (D O : List Int) (b : Int) (hb : 0 < bs D O 0 b ∨ True) : ∀ n, (∃ q, q < n ∧ O.getD q 0 = b) → ∃ q, q < n ∧ O.getD q 0 = b ∧ bs D O n b = bs D O (q + 1) b
  | 0, h => by obtain ⟨q, hq, _⟩ := h; omega
  | n + 1, h => by
    by_cases e : O.getD n 0 = b
    · exact ⟨n, by omega, e, rfl⟩
    · obtain ⟨q, hq, e2⟩ := h
      have hqn : q < n := by
        rcases Nat.lt_or_ge q n with h1 | h1
        · exact h1
        · obtain rfl : q = n := by omega
          exact (e e2).elim
      obtain ⟨p, h1, h2, h3⟩ := bs_last D O b hb n ⟨q, hqn, e2⟩
      exact ⟨p, by omega, h2, by
        show bs D O n b + (if O.getD n 0 = b then D.getD n 0 else 0) = _
        rw [if_neg e, h3, Int.add_zero]⟩
theorem gP_gR {D O : List Int} {size : Int} {n : Nat} (hD : ∀ x, x ∈ D → 0 ≤ x) : gP D O size n ↔ gR D O size n := by
  constructor
  · intro h q hq
    refine ⟨(h q hq).1, ?_⟩
    obtain ⟨p, h1, h2, h3⟩ := bs_last D O (O.getD q 0) (.inr trivial) n ⟨q, hq, rfl⟩
    rw [h3]
    have := (h p h1).2
    rwa [h2] at this
  · intro h q hq
    exact ⟨(h q hq).1, Int.le_trans (bs_le hD O _ (by omega)) (h q hq).2⟩
end Go.Proofs.Ytfjoakhcgpckgaa.Wk
