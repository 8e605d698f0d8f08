/- Contract: event.Decode. -/
import Derived.Test.YtkemlckmfgacdaaGreatDoorJnP41
import Derived.Test.YtkemlckmfgacdaaGreatDoorJnP42
import Derived.Test.YtkemlckmfgacdaaGreatDoorJnP43
import Derived.Deep.Light
import Derived.Test.YtkemlckmfgacdaaGreatDoorJnP40
import Derived.Test.YtkemlckmfgacdaaGreatDoorJnP24
import Derived.Deep.RegionWith
import Derived.Deep.RegionHeld3
namespace Go.Proofs.YtkemlckmfgacdaaGreatDoor
set_option maxRecDepth 20000
set_option maxHeartbeats 64000000
open Go.ChangeShapes Go.WideShapes Go.ChangeAt Go.RowKit
set_option linter.unusedVariables false
set_option linter.unusedSimpArgs false
open Tp Jm Ev
theorem decode_any (s : Bs) (a : Option Addr) (n cap : Nat) (w : World) (hn : s.length = n) (hcap : n ≤ cap) (hmax : cap ≤ 9223372036854775807) (he : Env w) (hs : BytA w a s) : Calls Tryz.prog 14 #[.slice a n cap] w (DecQ w (if 3001 < s.length then none else rd s) (if 3001 < s.length then 2 else 3)) := by
 by_cases hl : 3001 < s.length
 ·rw [if_pos hl, if_pos hl]; exact decode_long s a n cap w hn (by omega)
 rw [if_neg hl, if_neg hl]
 cases s with
 | nil =>
  obtain rfl : n = 0 := hn.symm
  exact decode_none a cap w
 | cons k r =>
  obtain rfl : n = r.length + 1 := hn.symm
  have hl2 : r.length ≤ 3000 := by simp at hl; omega
  by_cases h1 : k.toNat = 1
  ·cases hO1 : rdA r with
   | none => exact decode_1n k r a _ cap w rfl hl2 hcap hmax he hs h1 hO1
   | some j => exact decode_1y k r a _ cap w rfl hl2 hcap hmax he hs h1 j hO1
  by_cases h2 : k.toNat = 2
  ·exact decode_2 k r a _ cap w rfl hl2 hcap hmax he hs h2
  by_cases h4 : k.toNat = 4
  ·by_cases hr : r.length = 3
   ·exact decode_4a k r a _ cap w rfl hl2 hcap hmax he hs ⟨h4, hr⟩
   ·exact decode_4b k r a _ cap w rfl hl2 hcap hmax he hs ⟨h4, hr⟩
  by_cases h5 : k.toNat = 5
  ·exact decode_5 k r a _ cap w rfl hl2 hcap hmax he hs h5
  exact decode_0 k r a _ cap w rfl hl2 hcap hmax he hs ⟨h1, h2, h4, h5⟩
open Tp Jm Ev
theorem fault_two (n : Int) : (Evt.mk 2 zJb n 0 false).fault = if n < 0 ∨ 1000000000 < n then 4 else 0 := by
 unfold Evt.fault
 rw [odd_z (by decide) (fun h => absurd rfl h) (fun _ _ => rfl) (fun _ => rfl) zJb (fun _ => rfl)]
 have hc : (n < 0 ∨ 1000000000 < n ∨ (0 : Int) < 0 ∨ (65535 : Int) < 0) ↔ (n < 0 ∨ 1000000000 < n) := by omega
 simp only [Bool.false_eq_true, if_false, show ¬ (2 : Int) = 1 by decide, hc]
theorem rd_fault {b : Bs} {y : Evt} {O : Option Evt} (hO : rd b = O) (h : rd b = some y) {f : Int} (hf : y.fault = f) : O = if f = 0 then some y else none := by
 rw [← hO, h, if_pos (hf.symm.trans (rd_bytes h).1)]
end Go.Proofs.YtkemlckmfgacdaaGreatDoor
