/- Plain: what a good ask holds of; a row's asks, their cells named. -/
import Derived.Test.YtddcaabhbbdbpaaDoorAskCheck
namespace Go.Proofs.YtddcaabhbbdbpaaDoor
open Go.ChangeShapes Go.WideShapes Go.ChangeAt Go.RowKit
set_option linter.unusedVariables false
open Tp
namespace Ask
theorem err_zero {k : Int} {a b : Bs} {n : Int} {l : List Ask} (h : err (mk k a b n l) = 0) : bad k a b n l.length = 0 ∧ errs l = 0 := by
  rw [err] at h
  split at h
  · rename_i h2; exact absurd h h2
  · rename_i h2; exact ⟨Decidable.byContradiction h2, h⟩
theorem errs_at {l : List Ask} {i : Nat} {x : Ask} (h : errs l = 0) (hx : l[i]? = some x) : err x = 0 := by
  induction l generalizing i with
  | nil => simp at hx
  | cons y l ih =>
    rw [errs] at h
    split at h
    · rename_i h2; exact absurd h h2
    · rename_i h2
      cases i with
      | zero => simp at hx; subst hx; exact Decidable.byContradiction h2
      | succ i => exact ih (i := i) h (by simpa using hx)
theorem bad_zero {k : Int} {a b : Bs} {n : Int} {len : Nat} (h : bad k a b n len = 0) : 1 ≤ k ∧ k ≤ 6 ∧ len = inner k ∧ (k ≠ 3 → n = 0) ∧ 0 ≤ n ∧ n ≤ 1099511627776 ∧ (4 ≤ k → a = []) ∧ (k ≠ 2 → b = []) ∧ (k = 3 → unit a = true) ∧ (k = 1 ∨ k = 2 → lab a = true) ∧ (k = 2 → lab b = true) := by
  unfold bad at h
  split at h
  · cases h
  rename_i h1
  split at h
  · cases h
  rename_i h2
  split at h
  · cases h
  rename_i h3
  split at h
  · cases h
  rename_i h4
  have g1 : len = inner k := Decidable.byContradiction fun e => h2 (.inl e)
  have g2 : 4 ≤ k → a = [] := fun e => Decidable.byContradiction fun e2 => h2 (.inr (.inl ⟨e, e2⟩))
  have g3 : k ≠ 2 → b = [] := fun e => Decidable.byContradiction fun e2 => h2 (.inr (.inr (.inl ⟨e, e2⟩)))
  have g4 : k ≠ 3 → n = 0 := fun e => Decidable.byContradiction fun e2 => h2 (.inr (.inr (.inr ⟨e, e2⟩)))
  have g5 : k = 3 → unit a = true := fun e => by
    cases hu : unit a with
    | true => rfl
    | false => exact absurd (.inl ⟨e, hu⟩) h3
  have g6 : k = 1 ∨ k = 2 → lab a = true := fun e => by
    cases hu : lab a with
    | true => rfl
    | false => exact absurd (.inr (.inl ⟨e, hu⟩)) h3
  have g7 : k = 2 → lab b = true := fun e => by
    cases hu : lab b with
    | true => rfl
    | false => exact absurd (.inr (.inr ⟨e, hu⟩)) h3
  exact ⟨by omega, by omega, g1, g4, by omega, by omega, g2, g3, g5, g6, g7⟩
end Ask
/-- cells of a row's asks, named -/
theorem AsksV.get' {w : World} {l : List Ask} {b off i : Nat} {x : Ask} (h : AsksV w l b off) (hx : l[i]? = some x) : ∃ (k0 : Int) (k1 k2 : ByteArray) (k3 : Int) (ad : Option Addr) (len cap : Nat), w.cell? ⟨b, off + i * 5, none⟩ = some (.int .i64 k0) ∧ w.cell? ⟨b, off + i * 5 + 1, none⟩ = some (.string k1) ∧ w.cell? ⟨b, off + i * 5 + 2, none⟩ = some (.string k2) ∧ w.cell? ⟨b, off + i * 5 + 3, none⟩ = some (.int .i64 k3) ∧ w.cell? ⟨b, off + i * 5 + 4, none⟩ = some (.slice ad len cap) ∧ AskV w x (.agg #[.int .i64 k0, .string k1, .string k2, .int .i64 k3, .slice ad len cap]) := by
  obtain ⟨ad, len, cap, h0, h1, h2, h3, h4, h5⟩ := h.get hx
  exact ⟨_, _, _, _, ad, len, cap, h0, h1, h2, h3, h4, h5⟩
end Go.Proofs.YtddcaabhbbdbpaaDoor
