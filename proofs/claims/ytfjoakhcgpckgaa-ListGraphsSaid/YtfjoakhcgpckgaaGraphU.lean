/- Rows of bits and of yes and no; what an element's type is. -/
import Derived.Test.YtfjoakhcgpckgaaGraph
import Derived.Test.YtfjoakhcgpckgaaGraphBits
import Derived.Test.YtfjoakhcgpckgaaNats
import Derived.RegionTactic
namespace Go.Proofs.Ytfjoakhcgpckgaa
open Go.ChangeShapes Go.WideShapes Go.ChangeAt Go.RowKit
set_option linter.unusedVariables false
open Gr (El)
theorem infoU64 : (Try.prog.info? 214).map (fun i => (i.zero, i.size, i.bytes)) = some (some (.int .u64 0), 1, 8) := by kernel_rfl
theorem infoInt : (Try.prog.info? 3).map (fun i => (i.zero, i.size, i.bytes)) = some (some (.int .i64 0), 1, 8) := by kernel_rfl
theorem infoBool : (Try.prog.info? 4).map (fun i => (i.zero, i.size, i.bytes)) = some (some (.bool false), 1, 1) := by kernel_rfl
def u64s (f : Nat → Nat) (i : Nat) : Value := .int .u64 (f i : Nat)
theorem rowK_go {L : El} {k : Nat} {x y : Int} (h : L[k]? = some (x, y)) (i : Nat) : Gr.rowK L (k + 1) i = if x = (i : Int) then Gr.rowK L k i ||| 2 ^ y.toNat else Gr.rowK L k i := by simp [Gr.rowK, h]
end Go.Proofs.Ytfjoakhcgpckgaa
