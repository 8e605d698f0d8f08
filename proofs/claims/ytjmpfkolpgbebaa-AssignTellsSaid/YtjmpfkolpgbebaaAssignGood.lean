/- Contract: two errors, neither of which tells of a fault. -/
import Derived.Test.YtjmpfkolpgbebaaAssignCheck
namespace Go.Proofs.Ytjmpfkolpgbebaa
open Go.ChangeShapes Go.WideShapes Go.ChangeAt Go.RowKit
set_option linter.unusedVariables false
theorem good1_any (x : Int) (w : World) : Calls Try.prog 15 #[.int .i64 x] w fun e w' => e = .returned (.bool (x != 0)) ∧ w' = w := by
  go_enter Try.func15, Try.ntmps15
  go_wp2_with fail
  go_ret
  exact ⟨rfl, rfl⟩
set_option maxHeartbeats 1600000 in
theorem goodI_any (g : Nat) (w : World) (h0 : w.cell? ⟨g, 0, none⟩ = some (.int .i64 0)) (h1 : w.cell? ⟨g, 1, none⟩ = some (.int .i64 0)) (lg : g < w.heap.size) :
    Calls Try.prog 17 #[.slice (some ⟨g, 0, none⟩) 2 2, .func (.func 15) #[] #[]] w fun e w' => e = .returned (.int .i64 (-1)) ∧ w' = w := by
  have HC := Lib.hid (good1_any 0 w)
  go_enter Try.func17, Try.ntmps17
  go_wp2_with fail
  go_rounds 3
  go_wp2_with (go_at_call 15; refine Calls.mono HC.out ?_; rintro e w2 ⟨rfl, rfl⟩)
  go_ret
  exact ⟨rfl, rfl⟩
theorem goodC_any (g : Nat) (w : World) (h0 : w.cell? ⟨g, 0, none⟩ = some (.int .i64 0)) (h1 : w.cell? ⟨g, 1, none⟩ = some (.int .i64 0)) (lg : g < w.heap.size) :
    Calls Try.prog 14 #[.slice (some ⟨g, 0, none⟩) 2 2, .func (.func 15) #[] #[]] w fun e w' => e = .returned (.bool false) ∧ w' = w := by
  have HC := Lib.hid (goodI_any g w h0 h1 lg)
  go_enter Try.func14, Try.ntmps14
  go_wp2_with (go_at_call 17; refine Calls.mono HC.out ?_; rintro e w2 ⟨rfl, rfl⟩)
  go_ret
  exact ⟨rfl, rfl⟩
theorem good_two (g : Nat) (w : World) (h0 : w.cell? ⟨g, 0, none⟩ = some (.int .i64 0)) (h1 : w.cell? ⟨g, 1, none⟩ = some (.int .i64 0)) (lg : g < w.heap.size) :
    Calls Try.prog 10 #[.slice (some ⟨g, 0, none⟩) 2 2] w fun e w' => e = .returned (.bool true) ∧ w' = w := by
  have HC := Lib.hid (goodC_any g w h0 h1 lg)
  go_enter Try.func10, Try.ntmps10
  go_wp2_with (go_at_call 14; refine Calls.mono HC.out ?_; rintro e w2 ⟨rfl, rfl⟩)
  go_ret
  exact ⟨rfl, rfl⟩
end Go.Proofs.Ytjmpfkolpgbebaa
