/- Contract: slices.Equal of two rows of numbers that read alike (at most 1000): true. -/
import Derived.Test.YtnfmopmcckgfdaaNats
import Derived.BigQuiet
import Derived.Deep.LoopGhost
import Derived.Deep.CutBlock
import Derived.Deep.DeepCutAuto
namespace Go.Proofs.Ytnfmopmcckgfdaa
open Go.ChangeShapes Go.WideShapes Go.ChangeAt Go.RowKit
set_option linter.unusedVariables false
theorem natCellE {w : World} {a : Option Addr} {l : List Nat} (h : Vals w a (nats l)) {q x : Nat} (hq : l[q]? = some x) : ∃ b off, a = some ⟨b, off, none⟩ ∧ b < w.heap.size ∧ w.cell? ⟨b, off + q, none⟩ = some (.int .i64 (x : Int)) := by
  have hl : 0 < (nats l).length := by rw [nats_length]; have := (List.getElem?_eq_some_iff.1 hq).1; omega
  obtain ⟨b, off, h1, h2, h3⟩ := h hl
  exact ⟨b, off, h1, h2, h3 q _ (by rw [nats, List.getElem?_map, hq]; rfl)⟩
set_option maxRecDepth 20000 in
set_option maxHeartbeats 4000000 in
theorem eqNat_same (l : List Nat) (a1 a2 : Option Addr) (n c1 c2 : Nat) (w : World) (hn : n = l.length) (hm : n ≤ 1000) (hA : Vals w a1 (nats l)) (hB : Vals w a2 (nats l)) :
    Calls Try.prog 14 #[.slice a1 n c1, .slice a2 n c2] w fun e w' => e = .returned (.bool true) ∧ Below w.heap.size w w' := by
  have HA := Lib.hid hA
  have HB := Lib.hid hB
  have HN := Lib.hid hn
  have hnn : ((n : Int) != (n : Int)) = false := by simp
  clear hA hB hn
  go_enter Try.func14, Try.ntmps14
  go_wp2_with fail
  go_loopg [13] n (fun g y wr => ∃ (j : Nat), j + g = n ∧ y = .int .i64 (j : Int) ∧ Hid (Below w.heap.size w wr))
  case atStart => exact ⟨0, by omega, rfl, Lib.hid (Below.refl _ _)⟩
  case round =>
    obtain ⟨j, hj, rfl, HBT⟩ := hrel
    have HJ := Lib.hid hj
    by_cases hjn : j < n
    · obtain ⟨i, hi⟩ : ∃ i, l[j]? = some i := ⟨_, List.getElem?_eq_getElem (by rw [← HN.out]; exact hjn)⟩
      obtain ⟨b1, o1, rfl, hb1, x1⟩ := natCellE (HA.out.below HBT.out (Nat.le_refl _)) hi
      obtain ⟨b2, o2, rfl, hb2, x2⟩ := natCellE (HB.out.below HBT.out (Nat.le_refl _)) hi
      have hj1 : (0 : Int) ≤ (j : Int) := by omega
      have hj2 : (j : Int) < (n : Int) := by omega
      clear hi hj
      go_upto_region 6 with fail
      go_quiet (fail)
      go_wp2_with fail
      go_roundg (n - (j + 1))
      case measure => (have := HJ.out; omega)
      case rel => exact ⟨j + 1, by have := HJ.out; omega, by simp, Lib.hid (HBT.out.trans ((Drawn.drewN _ _).below _))⟩
    · obtain rfl : j = n := by omega
      go_wp2_with fail
      go_ret
      exact ⟨rfl, HBT.out⟩
end Go.Proofs.Ytnfmopmcckgfdaa
