/- The walk of the law CivilReads. -/
import Derived.Test.YtdbipmidjdhjpaaDoorCivilReadR
namespace Go.Proofs.YtdbipmidjdhjpaaDoor
open Go.ChangeShapes Go.WideShapes Go.ChangeAt Go.RowKit Civ
set_option linter.unusedVariables false
set_option maxHeartbeats 1000000 in
theorem civilReads_any (n k : Int) (s : ByteArray) (w : World) (hT : Tab w) :
    Calls Tryd.prog 4 #[.int .i64 n, .int .i64 k, .string s] w fun e w' => e = .returned (.bool true) ∧ Below w.heap.size w w' := by
  obtain ⟨dy, dm, dd, de, hD⟩ := dateIs_ex n
  obtain ⟨a, f, hA⟩ := addIs_ex dy dm dd de k
  have HD := Lib.hid hD
  have HA := Lib.hid hA
  have HT := Lib.hid hT
  clear hD hA hT
  go_enter Tryd.func4, Tryd.ntmps4
  go_wp2_with (first
    | (go_at_call 16; refine Calls.mono (Add_any _ _ _ _ _ _ _ _ _ HT.out HD.out HA.out) ?_; rintro x w' ⟨rfl, p1, rfl⟩)
    | (go_at_call 17; refine Calls.mono (later_any _ _ _ _ _ _ _ _ _ HD.out HA.out) ?_; rintro x w' ⟨rfl, rfl⟩)
    | (go_at_call 18; refine Calls.mono (Text_any _ _ _ _ _ _ HT.out HD.out) ?_; rintro x w' ⟨rfl, p2, rfl⟩)
    | (go_at_call 19; refine Calls.mono (dateText_any _ _ _ _ _ _ HD.out) ?_; rintro x w' ⟨rfl, rfl⟩)
    | (go_at_call 20; refine Calls.mono (Read_any _ _ HT.out) ?_; rintro x w1 ⟨rfl, hB⟩)
    | (go_at_call 21; refine Calls.mono (dateRead_any _ _) ?_; rintro x w2 ⟨rfl, hB2⟩))
  go_ret
  exact ⟨ret_bool (by simp), (below_drewN (Below.refl _ _) _).trans (hB.trans (hB2.mono hB.size))⟩
end Go.Proofs.YtdbipmidjdhjpaaDoor
