/- Contracts of what the document's reader of a job calls, in one form. -/
import Derived.Test.YtkemlckmfgacdaaGreatDoorJnP37
import Derived.Test.YtkemlckmfgacdaaGreatDoorJnP26
import Derived.Test.YtkemlckmfgacdaaGreatDoorJnP32
namespace Go.Proofs.YtkemlckmfgacdaaGreatDoor
set_option maxRecDepth 20000
set_option maxHeartbeats 64000000
open Go.ChangeShapes Go.WideShapes Go.ChangeAt Go.RowKit
set_option linter.unusedVariables false
open Tp Jm
def IntOfB (w : World) (s : Bs) (e : Ending) (w' : World) : Prop := Below w.heap.size w w' ∧ match Nt.intOf s with
 | some v => e = .returned (.tuple #[.int .i64 v, .bool true])
 | none => ∃ n, e = .returned (.tuple #[.int .i64 n, .bool false])
theorem intOf_b (s : Bs) (w : World) (hs : s.length ≤ 1099511627776) : Calls Tryz.prog 45 #[.string (bts s)] w (IntOfB w s) := by
 refine Calls.mono (IntOf_any s w hs) ?_
 rintro e w' ⟨n, rfl, hn, hb⟩
 refine ⟨hb, ?_⟩
 cases h : Nt.intOf s with
 | none => exact ⟨n, rfl⟩
 | some v =>
  obtain rfl := hn v h
  rfl
theorem BoxV.own {B g cp n : Nat} {e : TypeId} {xs : List Value} {w : World} (h : w.ownsRow B e 1 (.slice (some ⟨g, 0, none⟩) n cp) n xs) (hl : xs.length = n) : BoxV g xs w :=
 ⟨(h.lt g rfl).2, fun i v hi => by rw [h.cellAt i (by rw [Nat.mul_one, ← hl]; exact (List.getElem?_eq_some_iff.1 hi).1)]; exact hi, fun i => h.frozenAt i⟩
theorem pieces_b (s : Bs) (c : UInt8) (k : Int) (hk : (c.toNat : Int) = k) (w : World) (hs : s.length ≤ 1099511627776) : Calls Tryz.prog 44 #[.string (bts s), .int .u8 k] w fun e w' => ∃ G cp, e = .returned (.slice (some ⟨G, 0, none⟩) (Nt.pcs c s).length cp) ∧ w.heap.size ≤ G ∧ BoxV G (txv (Nt.pcs c s)) w' ∧ (Nt.pcs c s).length ≤ cp ∧ Below w.heap.size w w' := by
 subst hk
 refine Calls.mono (Pieces_any s c w hs) ?_
 rintro e w' ⟨v, rfl, ho, hb⟩
 obtain ⟨a4, cp4, hv, hcp, hcp2, hO9⟩ := ownForm ho
 have hl : 0 < (Nt.pcs c s).length := List.length_pos_iff.2 (Nt.pcs_ne c s)
 obtain ⟨g, rfl⟩ := hO9 hl
 subst hv
 exact ⟨g, cp4, rfl, (ho.lt g rfl).1, BoxV.own ho (txv_length _), hcp, hb⟩
end Go.Proofs.YtkemlckmfgacdaaGreatDoor
