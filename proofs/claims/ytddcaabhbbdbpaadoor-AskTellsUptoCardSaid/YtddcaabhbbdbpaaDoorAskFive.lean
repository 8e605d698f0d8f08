/- An ask's value, its parts named; five cells of a block, written. -/
import Derived.Test.YtddcaabhbbdbpaaDoorAskP
namespace Go.Proofs.YtddcaabhbbdbpaaDoor
open Go.ChangeShapes Go.WideShapes Go.ChangeAt Go.RowKit
set_option linter.unusedVariables false
open Tp
/-- an ask's value, its parts named -/
theorem AskV.form {w : World} {x : Ask} {v : Value} (h : AskV w x v) : ∃ (k0 : Int) (k1 k2 : ByteArray) (k3 : Int) (ad : Option Addr) (len cap : Nat), v = .agg #[.int .i64 k0, .string k1, .string k2, .int .i64 k3, .slice ad len cap] := by
  cases x with
  | mk k a b n l =>
  rw [AskV] at h
  obtain ⟨ad, len, cap, e, _⟩ := h
  exact ⟨_, _, _, _, _, _, _, e⟩
theorem cell_top (W : World) (c : Array Value) (T : TypeId) (b i : Nat) (hb : b = W.heap.size) : (W.alloc (.cells c T)).cell? ⟨b, i, none⟩ = c[i]? := by
  subst hb
  simp
/-- five cells of a block, written -/
def five (W : World) (c : Nat) (v0 v1 v2 v3 v4 : Value) : World := ((((W.setCell ⟨c, 0, none⟩ v0).setCell ⟨c, 1, none⟩ v1).setCell ⟨c, 2, none⟩ v2).setCell ⟨c, 3, none⟩ v3).setCell ⟨c, 4, none⟩ v4
theorem five_heap (W : World) (c : Nat) (v0 v1 v2 v3 v4 : Value) (b : Nat) (h : b ≠ c) : (five W c v0 v1 v2 v3 v4).heap[b]? = W.heap[b]? := by
  unfold five
  rw [Below.heap_setCell _ _ _ _ h, Below.heap_setCell _ _ _ _ h, Below.heap_setCell _ _ _ _ h, Below.heap_setCell _ _ _ _ h, Below.heap_setCell _ _ _ _ h]
theorem five_size (W : World) (c : Nat) (v0 v1 v2 v3 v4 : Value) : (five W c v0 v1 v2 v3 v4).heap.size = W.heap.size := by unfold five; simp
theorem five_below {B : Nat} {w W : World} (h : Below B w W) (c : Nat) (v0 v1 v2 v3 v4 : Value) (hB : B ≤ c) : Below B w (five W c v0 v1 v2 v3 v4) :=
  ((((h.setCell (p := ⟨c, 0, none⟩) hB _).setCell (p := ⟨c, 1, none⟩) hB _).setCell (p := ⟨c, 2, none⟩) hB _).setCell (p := ⟨c, 3, none⟩) hB _).setCell (p := ⟨c, 4, none⟩) hB _
theorem frozen_top (W : World) (c : Array Value) (T : TypeId) (b i : Nat) (hb : b = W.heap.size) : (W.alloc (.cells c T)).frozen? ⟨b, i, none⟩ = false := by
  subst hb
  have := heap_alloc_new W (.cells c T)
  unfold World.frozen?
  simp only [this]
  rfl
theorem AsksVP.get' {p : Nat → Prop} {w : World} {l : List Ask} {b off i : Nat} {x : Ask} (h : AsksVP p w l b off) (hx : l[i]? = some x) : ∃ (k0 : Int) (k1 k2 : ByteArray) (k3 : Int) (ad : Option Addr) (len cap : Nat), w.cell? ⟨b, off + i * 5, none⟩ = some (.int .i64 k0) ∧ w.cell? ⟨b, off + i * 5 + 1, none⟩ = some (.string k1) ∧ w.cell? ⟨b, off + i * 5 + 2, none⟩ = some (.string k2) ∧ w.cell? ⟨b, off + i * 5 + 3, none⟩ = some (.int .i64 k3) ∧ w.cell? ⟨b, off + i * 5 + 4, none⟩ = some (.slice ad len cap) ∧ AskVP p w x (.agg #[.int .i64 k0, .string k1, .string k2, .int .i64 k3, .slice ad len cap]) := by
  obtain ⟨v, ⟨c0, c1, c2, c3, c4, e, h0, h1, h2, h3, h4⟩, hv⟩ := h.at' hx
  obtain ⟨k0, k1, k2, k3, ad, len, cap, e2⟩ := AskV.form (AskVP.toV _ _ hv)
  rw [e] at e2
  simp only [Value.agg.injEq, Array.mk.injEq, List.cons.injEq, and_true] at e2
  obtain ⟨rfl, rfl, rfl, rfl, rfl⟩ := e2
  exact ⟨k0, k1, k2, k3, ad, len, cap, h0, h1, h2, h3, h4, e ▸ hv⟩
end Go.Proofs.YtddcaabhbbdbpaaDoor
