/-
  DERIVED. GIVEN WITH THE SEED: THE CARDS: each row of YtkelkpfjkjcmgaaDoorRows.lean that lists a variable, with what it lists TIED to the program's text (the seventh form; the later family's looks); each row that meets fmt, with fmt's text TOLD by the authors' own Lean function (tested against real Go, not proved from fmt's source: count such statements apart). THE CARD IS WHAT COUNTS. Prove the row's statement (the work); the ties are given (YtkelkpfjkjcmgaaDoorTie.lean); close each card by the builder's one call (the guide's Derived/Test/ToyasCard.lean, 'card_holds'). Laid BY PROGRAM, IN A SANDBOX (cutbox-door.mjs). By AI agents, Wed Nov 11 2026. No macro, syntax, notation, axiom, sorry.
-/
import Derived.Test.YtkelkpfjkjcmgaaDoorRows
import GoSem.ClaimSeven
namespace Go.Proofs.YtkelkpfjkjcmgaaDoor
namespace Rows

/-- THE TIED CARD OF 'shiftbelllaw.AskHolds'. -/
def askHoldsCard : Claim7 := { stood := { row := askHoldsRow, standIns := [], harness := (true, "0fd553ef41b255cc6abf2865b03150d73c6fd6eb7b37139f523f74273af1af1c"), looks := false }, kinds := [], alts := [], laidByText := true, laidKinds := [.data, .data, .data], laidTests := true, laidLooks := .later }
def AskHoldsCardSaid : Prop := Claim7.holds Tryd.pinned (.plain (OpenSpec.ofChange askHoldsSpec)) askHoldsCard

/-- THE SECOND FORM's CARD OF 'shiftbelllaw.AskHolds'. -/
def askHoldsUptoCard : Claim7 := { stood := { row := askHoldsUptoRow, standIns := [], harness := (true, "0fd553ef41b255cc6abf2865b03150d73c6fd6eb7b37139f523f74273af1af1c"), looks := false }, kinds := [], alts := [], laidByText := true, laidKinds := [.data, .data, .data], laidTests := true, laidLooks := .later }
def AskHoldsUptoCardSaid : Prop := Claim7.holds Tryd.pinned (.plain (OpenSpec.upto askHoldsSpec)) askHoldsUptoCard
end Rows
end Go.Proofs.YtkelkpfjkjcmgaaDoor
