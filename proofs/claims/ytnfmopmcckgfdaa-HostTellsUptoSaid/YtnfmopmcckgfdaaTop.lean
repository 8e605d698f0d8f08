/- What lies in the block that was made last. -/
import Derived.Test.YtnfmopmcckgfdaaBts
namespace Go.Proofs.Ytnfmopmcckgfdaa
open Go.ChangeShapes Go.WideShapes Go.ChangeAt Go.RowKit
set_option linter.unusedVariables false
theorem top_cell (W : World) (c : Array Value) (T : TypeId) (b i : Nat) (hb : b = W.heap.size) : (W.alloc (.cells c T)).cell? ⟨b, i, none⟩ = c[i]? := by
  subst hb
  simp
theorem top_frozen (W : World) (c : Array Value) (T : TypeId) (b i : Nat) (hb : b = W.heap.size) : (W.alloc (.cells c T)).frozen? ⟨b, i, none⟩ = false := by
  subst hb
  have := heap_alloc_new W (.cells c T)
  unfold World.frozen?
  simp only [this]
  rfl
theorem top_lt (w : World) (o : Obj) : w.heap.size < (w.alloc o).heap.size := by simp
end Go.Proofs.Ytnfmopmcckgfdaa
