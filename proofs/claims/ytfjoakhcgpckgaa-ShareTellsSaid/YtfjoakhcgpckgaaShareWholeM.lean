/- Plain facts: whole shares: what each has, what is left, whom it goes to. -/
import Derived.Test.YtfjoakhcgpckgaaShareM
import Derived.Test.YtfjoakhcgpckgaaDownward
namespace Go.Proofs.Ytfjoakhcgpckgaa.Sh
set_option linter.unusedVariables false
open St
def quoS (all S x : Int) : Int := all * x / S
def remS (all S x : Int) : Int := all * x % S
def quos (all S : Int) (D : List Int) : List Int := D.map (quoS all S)
def rems (all S : Int) (D : List Int) : List Int := D.map (remS all S)
def bump (Q T : List Int) : List Int := T.foldl (fun Q o => Q.set o.toNat (Q.getD o.toNat 0 + 1)) Q
theorem bump_nil (Q : List Int) : bump Q [] = Q := rfl
theorem bump_snoc (Q T : List Int) (o : Int) : bump Q (T ++ [o]) = (bump Q T).set o.toNat ((bump Q T).getD o.toNat 0 + 1) := by unfold bump; rw [List.foldl_append]; rfl
theorem bump_length (Q T : List Int) : (bump Q T).length = Q.length := by
  induction T generalizing Q with
  | nil => rfl
  | cons o T ih =>
    show (bump (Q.set _ _) T).length = _
    rw [ih, List.length_set]
theorem bump_take {Q T : List Int} {q : Nat} {o : Int} (h : T[q]? = some o) : bump Q (T.take (q + 1)) = (bump Q (T.take q)).set o.toNat ((bump Q (T.take q)).getD o.toNat 0 + 1) := by
  rw [List.take_add_one, h]
  exact bump_snoc _ _ _
theorem bump_bound {Q T : List Int} {m : Int} (h : ∀ x, x ∈ Q → 0 ≤ x ∧ x ≤ m) : ∀ x, x ∈ bump Q T → 0 ≤ x ∧ x ≤ m + T.length := by
  induction T generalizing Q m with
  | nil => intro x hx; have := h x hx; simp; omega
  | cons o T ih =>
    intro x hx
    have h2 : ∀ x, x ∈ Q.set o.toNat (Q.getD o.toNat 0 + 1) → 0 ≤ x ∧ x ≤ m + 1 := by
      intro x hx
      rcases List.mem_or_eq_of_mem_set hx with h3 | h3
      · have := h x h3; omega
      · by_cases hl : o.toNat < Q.length
        · have hm := h Q[o.toNat] (List.getElem_mem hl)
          rw [List.getD_eq_getElem?_getD, List.getElem?_eq_getElem hl, Option.getD_some] at h3
          omega
        · rw [List.set_eq_of_length_le (by omega)] at hx
          have := h x hx
          omega
    have := ih h2 x hx
    rw [List.length_cons]
    push_cast
    omega
/-- what is left of the first q -/
theorem sum_take_snoc {D : List Int} {q : Nat} {x : Int} (h : D[q]? = some x) : (D.take (q + 1)).sum = (D.take q).sum + x := by
  rw [List.take_add_one, h]
  simp
theorem sum_bound {D : List Int} {m : Int} (h : ∀ x, x ∈ D → 0 ≤ x ∧ x ≤ m) : 0 ≤ D.sum ∧ D.sum ≤ D.length * m := by
  induction D with
  | nil => simp
  | cons x D ih =>
    have h1 := h x (by simp)
    have h2 := ih (fun y hy => h y (by simp [hy]))
    rw [List.sum_cons, List.length_cons]
    push_cast
    rw [Int.add_mul]
    omega
theorem mem_le_sum {D : List Int} (h : ∀ x, x ∈ D → 0 ≤ x) {x : Int} (hx : x ∈ D) : x ≤ D.sum := by
  induction D with
  | nil => cases hx
  | cons y D ih =>
    have h0 : 0 ≤ D.sum := by
      clear ih hx
      have h2 : ∀ x, x ∈ D → 0 ≤ x := fun x hx => h x (by simp [hx])
      clear h
      induction D with
      | nil => simp
      | cons z D ih =>
        have := ih (fun x hx => h2 x (by simp [hx]))
        have := h2 z (by simp)
        rw [List.sum_cons]
        omega
    have hy := h y (by simp)
    rw [List.sum_cons]
    rcases List.mem_cons.1 hx with rfl | hx
    · omega
    · have := ih (fun x hx => h x (by simp [hx])) hx
      omega
theorem quo_rem_sum (all S : Int) (D : List Int) : S * (quos all S D).sum + (rems all S D).sum = all * D.sum := by
  induction D with
  | nil => simp [quos, rems]
  | cons x D ih =>
    have h := Int.mul_ediv_add_emod (all * x) S
    simp only [quos, rems, List.map_cons, List.sum_cons] at *
    rw [Int.mul_add, Int.mul_add, ← ih, ← h]
    simp only [quoS, remS]
    omega
theorem quo_bound {all S x : Int} (ha : 0 ≤ all ∧ all ≤ m40) (hS : 0 < S) (hx : 0 ≤ x ∧ x ≤ S) : 0 ≤ quoS all S x ∧ quoS all S x ≤ m40 := by
  unfold quoS
  have h1 : all * x ≤ all * S := Int.mul_le_mul_of_nonneg_left hx.2 ha.1
  have h2 : all * x / S ≤ all * S / S := Int.ediv_le_ediv hS h1
  rw [Int.mul_ediv_cancel _ (by omega)] at h2
  exact ⟨Int.ediv_nonneg (Int.mul_nonneg ha.1 hx.1) (by omega), by omega⟩
theorem rem_bound {all S x : Int} (hS : 0 < S) : 0 ≤ remS all S x ∧ remS all S x < S := ⟨Int.emod_nonneg _ (by omega), Int.emod_lt_of_pos _ hS⟩
theorem left_lin {S q r all n : Int} (hS : 0 < S) (h : S * q + r = all * S) (h0 : 0 ≤ r) (h1 : r ≤ n * S) : 0 ≤ all - q ∧ all - q ≤ n := by
  have e : S * (all - q) = r := by rw [Int.mul_sub, Int.mul_comm S all]; omega
  constructor
  · rcases Int.lt_or_le (all - q) 0 with h2 | h2
    · have := Int.mul_neg_of_pos_of_neg hS h2
      omega
    · exact h2
  · rcases Int.lt_or_le n (all - q) with h2 | h2
    · have h3 : S * (n + 1) ≤ S * (all - q) := Int.mul_le_mul_of_nonneg_left (by omega) (by omega)
      rw [Int.mul_add, Int.mul_comm S n] at h3
      omega
    · exact h2
/-- what is left when all have their part: no more than there are -/
theorem left_bound {all : Int} {D : List Int} (hS : 0 < D.sum) : 0 ≤ all - (quos all D.sum D).sum ∧ all - (quos all D.sum D).sum ≤ D.length := by
  have h := quo_rem_sum all D.sum D
  have hr : 0 ≤ (rems all D.sum D).sum ∧ (rems all D.sum D).sum ≤ ((rems all D.sum D).length : Int) * D.sum := sum_bound (fun x hx => by
    obtain ⟨y, hy, rfl⟩ := List.mem_map.1 hx
    have := rem_bound (all := all) (S := D.sum) (x := y) hS
    omega)
  rw [show (rems all D.sum D).length = D.length from List.length_map _] at hr
  exact left_lin hS h hr.1 hr.2
def wholeE (D : List Int) : Int := if D.sum = 0 then 5 else if 1000000000 < D.sum then 2 else 0
def wholeO (all : Int) (D os : List Int) : List Int := bump (quos all D.sum D) (os.take (all - (quos all D.sum D).sum).toNat)
/-- the shares, by an order that is told -/
def WholeIs (all : Int) (D R : List Int) : Prop := ∃ os : List Int, os.Perm (upn D.length) ∧ Srtd (kD (rems all D.sum D)) os ∧ R = wholeO all D os
theorem WholeIs.uniq {all : Int} {D R R' : List Int} (h : WholeIs all D R) (h' : WholeIs all D R') : R = R' := by
  obtain ⟨os, p, s, rfl⟩ := h
  obtain ⟨os', p', s', rfl⟩ := h'
  have : os = os' := sorted_uniq (p.trans p'.symm) s s'
  rw [this]
end Go.Proofs.Ytfjoakhcgpckgaa.Sh
