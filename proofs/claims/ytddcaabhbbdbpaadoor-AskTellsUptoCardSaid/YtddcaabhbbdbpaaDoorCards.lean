/-
  DERIVED. GIVEN WITH THE SEED: THE CARDS: each row of YtddcaabhbbdbpaaDoorRows.lean that lists a variable, with what it lists TIED to the program's text (the seventh form; the later family's looks); each row that meets fmt, with fmt's text TOLD by the authors' own Lean function (tested against real Go, not proved from fmt's source: count such statements apart). THE CARD IS WHAT COUNTS. Prove the row's statement (the work); the ties are given (YtddcaabhbbdbpaaDoorTie.lean); close each card by the builder's one call (the guide's Derived/Test/ToyasCard.lean, 'card_holds'). Laid BY PROGRAM, IN A SANDBOX (cutbox-door.mjs). By AI agents, Wed Nov 11 2026. No macro, syntax, notation, axiom, sorry.
-/
import Derived.Test.YtddcaabhbbdbpaaDoorRows
import GoSem.ClaimSeven
namespace Go.Proofs.YtddcaabhbbdbpaaDoor
namespace Rows

/-- THE TIED CARD OF 'shiftbelllaw.AskTells'. -/
def askTellsCard : Claim7 := { stood := { row := askTellsRow, standIns := [], harness := (true, "bc6cb3b6e6aa6b11710f28ac5f3b254349e2dd8ad880bae4f7ebda3b1e9f370e"), looks := true }, kinds := [], alts := [], laidByText := true, laidKinds := [.data, .data, .data, .sentinel, .sentinel], laidTests := true, laidLooks := .later }
def AskTellsCardSaid : Prop := Claim7.holds Tryd.pinned (.plain (OpenSpec.ofChange askTellsSpec)) askTellsCard

/-- THE SECOND FORM's CARD OF 'shiftbelllaw.AskTells'. -/
def askTellsUptoCard : Claim7 := { stood := { row := askTellsUptoRow, standIns := [], harness := (true, "bc6cb3b6e6aa6b11710f28ac5f3b254349e2dd8ad880bae4f7ebda3b1e9f370e"), looks := true }, kinds := [], alts := [], laidByText := true, laidKinds := [.data, .data, .data, .sentinel, .sentinel], laidTests := true, laidLooks := .later }
def AskTellsUptoCardSaid : Prop := Claim7.holds Tryd.pinned (.plain (OpenSpec.upto askTellsSpec)) askTellsUptoCard
end Rows
end Go.Proofs.YtddcaabhbbdbpaaDoor
