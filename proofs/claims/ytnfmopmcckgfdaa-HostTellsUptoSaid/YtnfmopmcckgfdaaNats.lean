/- Lists of things as rows of numbers; a row's cells. -/
import Derived.Test.YtnfmopmcckgfdaaGraphMath
import Derived.Test.YtnfmopmcckgfdaaOwn
namespace Go.Proofs.Ytnfmopmcckgfdaa
open Go.ChangeShapes Go.WideShapes Go.ChangeAt Go.RowKit
set_option linter.unusedVariables false
def nat1 (i : Nat) : Value := .int .i64 (i : Int)
def nats (l : List Nat) : List Value := l.map nat1
theorem nats_snoc (l : List Nat) (i : Nat) : nats (l ++ [i]) = nats l ++ [nat1 i] := by simp [nats]
theorem nats_length (l : List Nat) : (nats l).length = l.length := by simp [nats]
namespace Gr
theorem yes_skip {f : Nat → Bool} {m : Nat} : ∀ {p}, m ≤ p → (∀ i, m ≤ i → i < p → f i = false) → yes f p = yes f m
  | 0, h, _ => by have : m = 0 := by omega
                  rw [this]
  | p + 1, h, hf => by
    by_cases e : m = p + 1
    · rw [e]
    · have := yes_skip (p := p) (by omega) fun i h1 h2 => hf i h1 (by omega)
      show (if f p then _ else _) = _
      rw [hf p (by omega) (by omega)]
      simpa using this
theorem yes_more {f : Nat → Bool} {m p : Nat} (h : m ≤ p) (hf : ∀ i, m ≤ i → i < p → f i = false) (hp : f p = true) : yes f (p + 1) = yes f m ++ [p] := by
  show (if f p then _ else _) = _
  rw [hp, yes_skip h hf]; rfl
end Gr
theorem isVals1 {w : World} {base n : Nat} {e : TypeId} {v : Value} {xs : List Value} (h : w.ownsRow base e 1 v n xs) : ∃ a cap, v = .slice a n cap ∧ Vals w a xs := by
  obtain ⟨a, cap, rfl, h2⟩ := IsVals.own h
  have : xs.length = n := by simpa using h.1
  rw [this]
  exact ⟨a, cap, rfl, h2⟩
theorem row_addr {w : World} {base n c : Nat} {e : TypeId} {a : Option Addr} {xs : List Value} (h : w.ownsRow base e 1 (.slice a n c) n xs) (hn : 0 < n) : ∃ b, a = some ⟨b, 0, none⟩ := by
  obtain ⟨g, cap, e1, _⟩ := h.form hn
  simp only [Value.slice.injEq] at e1
  exact ⟨g, e1.1⟩
theorem row_cell {w : World} {base n c b i : Nat} {e : TypeId} {xs : List Value} {x : Value} (h : w.ownsRow base e 1 (.slice (some ⟨b, 0, none⟩) n c) n xs) (hx : xs[i]? = some x) : w.cell? ⟨b, i, none⟩ = some x := by
  have := h.cells (g := b) rfl i x hx
  rwa [show (⟨b, 0, none⟩ : Addr).add i = ⟨b, i, none⟩ from by unfold Addr.add; split <;> simp_all] at this
end Go.Proofs.Ytnfmopmcckgfdaa
