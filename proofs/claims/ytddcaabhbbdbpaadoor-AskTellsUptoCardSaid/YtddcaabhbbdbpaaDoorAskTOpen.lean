/- What the row's list gives: the world that the library's functions of texts want. -/
import Derived.Test.YtddcaabhbbdbpaaDoorTxtNum
import Derived.Test.YtddcaabhbbdbpaaDoorRows
import Derived.Stop.LaidErr
import Derived.LaidLaws
namespace Go.Proofs.YtddcaabhbbdbpaaDoor
open Go.ChangeShapes Go.WideShapes Go.ChangeAt Go.RowKit
set_option linter.unusedVariables false
theorem starErr : ("*errors.errorString" : String) = "*" ++ "errors.errorString" := by decide
theorem rowErr (u : TypeId) (h : Tryd.prog.typeName? 3 u = some "*errors.errorString") : u = 98 :=
  typeName_ptr_named (nm := "errors.errorString") (by rw [← starErr]; kernel_rfl) (by kernel_rfl) (by decide) u (by rw [← starErr]; exact h)
theorem env_of {L1 L2 : String × DataW Unit} {R : List (String × DataW Unit)} {W : World} (hSh : W.ShapedOpen Tryd.prog)
    (h : laidMet Tryd.prog (L1 :: L2 :: ("internal/strconv.uint64pow10", Rows.laid_internal_strconv_uint64pow10) :: ("strconv.ErrRange", Rows.laid_strconv_ErrRange) :: ("strconv.ErrSyntax", Rows.laid_strconv_ErrSyntax) :: R) W) : Env W := by
  have h1 := h.tail.tail
  have h2 := h1.tail
  have h3 := h2.tail
  obtain ⟨a1, s1, hv1, _, _, _⟩ := laid_sentinel (g := 1) (ti := 49) (tp := 98) (te := 100) (ts := 9) h3 (by kernel_rfl) (by kernel_rfl) Tryd.underlying49 rowErr Tryd.underlying98 Tryd.underlying100 rfl rfl Tryd.underlying9 (by kernel_rfl) (by kernel_rfl)
  obtain ⟨a2, s2, hv2, _, _, _⟩ := laid_sentinel (g := 2) (ti := 49) (tp := 98) (te := 100) (ts := 9) h2 (by kernel_rfl) (by kernel_rfl) Tryd.underlying49 rowErr Tryd.underlying98 Tryd.underlying100 rfl rfl Tryd.underlying9 (by kernel_rfl) (by kernel_rfl)
  obtain ⟨m, hm⟩ := Go.Proofs.cell_of_shapedOpen_int (g := 3) (zero := #[.int .i64 0]) (t := 3) hSh (of_decide_eq_true (by kernel_rfl)) (by kernel_rfl) rfl (by kernel_rfl) (by kernel_rfl) Tryd.underlying3
  refine ⟨⟨m, hm⟩, ⟨_, _, by simpa using World.var?_cell (by kernel_rfl) hv1 0⟩, ⟨_, _, by simpa using World.var?_cell (by kernel_rfl) hv2 0⟩, ?_⟩
  exact Lib.tabIs_of_head (rest := ("strconv.ErrRange", Rows.laid_strconv_ErrRange) :: ("strconv.ErrSyntax", Rows.laid_strconv_ErrSyntax) :: R) gPowT (t := 84) (e := 55) (by kernel_rfl) Tryd.underlying84 Tryd.underlying55 (by kernel_rfl) (by kernel_rfl) h1
end Go.Proofs.YtddcaabhbbdbpaaDoor
