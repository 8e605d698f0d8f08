/- An ask in memory, and in which blocks its rows lie: so that a store elsewhere leaves it. -/
import Derived.Test.YtddcaabhbbdbpaaDoorAskSame
namespace Go.Proofs.YtddcaabhbbdbpaaDoor
open Go.ChangeShapes Go.WideShapes Go.ChangeAt Go.RowKit
set_option linter.unusedVariables false
open Tp
mutual
/-- a value that reads as an ask, its rows in blocks of p -/
def AskVP (p : Nat → Prop) (w : World) : Ask → Value → Prop
  | .mk k a b n l, v => ∃ ad len cap, v = .agg #[.int .i64 k, .string (bts a), .string (bts b), .int .i64 n, .slice ad len cap] ∧ len = l.length ∧ len ≤ cap ∧ cap ≤ 9223372036854775807 ∧ a.length ≤ 9223372036854775807 ∧ b.length ≤ 9223372036854775807 ∧ (0 < len → ∃ bl off, ad = some ⟨bl, off, none⟩ ∧ bl < w.heap.size ∧ p bl ∧ AsksVP p w l bl off)
/-- asks, one behind the other -/
def AsksVP (p : Nat → Prop) (w : World) : List Ask → Nat → Nat → Prop
  | [], _, _ => True
  | x :: l, b, off => (∃ v, Cells5 w b off v ∧ AskVP p w x v) ∧ AsksVP p w l b (off + 5)
end
mutual
theorem AskVP.toV {p : Nat → Prop} {w : World} : ∀ (x : Ask) (v : Value), AskVP p w x v → AskV w x v
  | .mk k a b n l, v, h => by
    rw [AskVP] at h
    rw [AskV]
    obtain ⟨ad, len, cap, e, h1, h2, h3, h5, h6, h4⟩ := h
    refine ⟨ad, len, cap, e, h1, h2, h3, h5, h6, fun hp => ?_⟩
    obtain ⟨bl, off, e2, hlt, _, hh⟩ := h4 hp
    exact ⟨bl, off, e2, hlt, AsksVP.toV l bl off hh⟩
theorem AsksVP.toV {p : Nat → Prop} {w : World} : ∀ (l : List Ask) (b off : Nat), AsksVP p w l b off → AsksV w l b off
  | [], _, _, _ => by rw [AsksV]; trivial
  | x :: l, b, off, h => by
    rw [AsksVP] at h
    rw [AsksV]
    obtain ⟨⟨v, h1, h2⟩, h3⟩ := h
    exact ⟨⟨v, h1, AskVP.toV x v h2⟩, AsksVP.toV l b (off + 5) h3⟩
end
mutual
theorem AskV.toP {w : World} : ∀ (x : Ask) (v : Value), AskV w x v → AskVP (fun b => b < w.heap.size) w x v
  | .mk k a b n l, v, h => by
    rw [AskV] at h
    rw [AskVP]
    obtain ⟨ad, len, cap, e, h1, h2, h3, h5, h6, h4⟩ := h
    refine ⟨ad, len, cap, e, h1, h2, h3, h5, h6, fun hp => ?_⟩
    obtain ⟨bl, off, e2, hlt, hh⟩ := h4 hp
    exact ⟨bl, off, e2, hlt, hlt, AsksV.toP l bl off hh⟩
theorem AsksV.toP {w : World} : ∀ (l : List Ask) (b off : Nat), AsksV w l b off → AsksVP (fun b => b < w.heap.size) w l b off
  | [], _, _, _ => by rw [AsksVP]; trivial
  | x :: l, b, off, h => by
    rw [AsksV] at h
    rw [AsksVP]
    obtain ⟨⟨v, h1, h2⟩, h3⟩ := h
    exact ⟨⟨v, h1, AskV.toP x v h2⟩, AsksV.toP l b (off + 5) h3⟩
end
theorem Cells5.same {w w' : World} {b off : Nat} {v : Value} (h : Cells5 w b off v) (e : w'.heap[b]? = w.heap[b]?) : Cells5 w' b off v := by
  obtain ⟨c0, c1, c2, c3, c4, ev, h0, h1, h2, h3, h4⟩ := h
  exact ⟨c0, c1, c2, c3, c4, ev, (cell_of_block (p := ⟨b, _, none⟩) e).trans h0, (cell_of_block (p := ⟨b, _, none⟩) e).trans h1, (cell_of_block (p := ⟨b, _, none⟩) e).trans h2, (cell_of_block (p := ⟨b, _, none⟩) e).trans h3, (cell_of_block (p := ⟨b, _, none⟩) e).trans h4⟩
mutual
/-- an ask stays, where its rows' blocks stay; p may grow -/
theorem AskVP.stays {p q : Nat → Prop} {w w' : World} (hpq : ∀ b, p b → q b) (hs : w.heap.size ≤ w'.heap.size) (he : ∀ b, p b → b < w.heap.size → w'.heap[b]? = w.heap[b]?) : ∀ (x : Ask) (v : Value), AskVP p w x v → AskVP q w' x v
  | .mk k a b n l, v, h => by
    rw [AskVP] at h ⊢
    obtain ⟨ad, len, cap, e, h1, h2, h3, h5, h6, h4⟩ := h
    refine ⟨ad, len, cap, e, h1, h2, h3, h5, h6, fun hp => ?_⟩
    obtain ⟨bl, off, e2, hlt, hpb, hh⟩ := h4 hp
    exact ⟨bl, off, e2, by omega, hpq _ hpb, AsksVP.stays hpq hs he l bl off hpb hlt hh⟩
theorem AsksVP.stays {p q : Nat → Prop} {w w' : World} (hpq : ∀ b, p b → q b) (hs : w.heap.size ≤ w'.heap.size) (he : ∀ b, p b → b < w.heap.size → w'.heap[b]? = w.heap[b]?) : ∀ (l : List Ask) (b off : Nat), p b → b < w.heap.size → AsksVP p w l b off → AsksVP q w' l b off
  | [], _, _, _, _, _ => by rw [AsksVP]; trivial
  | x :: l, b, off, hpb, hlt, h => by
    rw [AsksVP] at h ⊢
    obtain ⟨⟨v, h1, h2⟩, h3⟩ := h
    exact ⟨⟨v, h1.same (he b hpb hlt), AskVP.stays hpq hs he x v h2⟩, AsksVP.stays hpq hs he l b (off + 5) hpb hlt h3⟩
end
theorem AsksVP.at' {p : Nat → Prop} {w : World} : ∀ {l : List Ask} {b off i : Nat} {x : Ask}, AsksVP p w l b off → l[i]? = some x → ∃ v, Cells5 w b (off + i * 5) v ∧ AskVP p w x v
  | [], _, _, _, _, _, h => by simp at h
  | y :: l, b, off, 0, x, h, hx => by
    rw [AsksVP] at h
    simp at hx; subst hx
    simpa using h.1
  | y :: l, b, off, i + 1, x, h, hx => by
    rw [AsksVP] at h
    have := AsksVP.at' (i := i) h.2 (by simpa using hx)
    rwa [show off + 5 + i * 5 = off + (i + 1) * 5 from by omega] at this
end Go.Proofs.YtddcaabhbbdbpaaDoor
