/-
  DERIVED. GIVEN WITH THE SEED: THE CARDS: each row of YtkemlckmfgacdaaGreatDoorRows.lean that lists a variable, with what it lists TIED to the program's text (the seventh form; the later family's looks); each row that meets fmt, with fmt's text TOLD by the authors' own Lean function (tested against real Go, not proved from fmt's source: count such statements apart). THE CARD IS WHAT COUNTS. Prove the row's statement (the work); the ties are given (YtkemlckmfgacdaaGreatDoorTie.lean); close each card by the builder's one call (the guide's Derived/Test/ToyasCard.lean, 'card_holds'). Laid BY PROGRAM, IN A SANDBOX (cutbox-door.mjs). By AI agents, Wed Nov 11 2026. No macro, syntax, notation, axiom, sorry.
-/
import Derived.Test.YtkemlckmfgacdaaGreatDoorRows
import GoSem.ClaimSeven
namespace Go.Proofs.YtkemlckmfgacdaaGreatDoor
namespace Rows

/-- THE TIED CARD OF 'shiftbelllaw.JobTells'. -/
def jobTellsCard : Claim7 := { stood := { row := jobTellsRow, standIns := [], harness := (true, "58e2682271be737d1c1c11d512358e3074ddc7836eaf39d62aa4f44fbeeff5fa"), looks := true }, kinds := [], alts := [], laidByText := true, laidKinds := [.data, .data, .data, .data, .sentinel, .sentinel, .pinned], laidTests := true, laidLooks := .later }
def JobTellsCardSaid : Prop := Claim7.holds Tryz.pinned (.plain (OpenSpec.ofChange jobTellsSpec)) jobTellsCard

/-- THE TIED CARD OF 'shiftbelllaw.EventTells'. -/
def eventTellsCard : Claim7 := { stood := { row := eventTellsRow, standIns := [], harness := (true, "58e2682271be737d1c1c11d512358e3074ddc7836eaf39d62aa4f44fbeeff5fa"), looks := true }, kinds := [], alts := [], laidByText := true, laidKinds := [.data, .data, .data, .data, .sentinel, .sentinel, .pinned], laidTests := true, laidLooks := .later }
def EventTellsCardSaid : Prop := Claim7.holds Tryz.pinned (.plain (OpenSpec.ofChange eventTellsSpec)) eventTellsCard

/-- THE TIED CARD OF 'shiftbelllaw.JournalTells'. -/
def journalTellsCard : Claim7 := { stood := { row := journalTellsRow, standIns := [], harness := (true, "58e2682271be737d1c1c11d512358e3074ddc7836eaf39d62aa4f44fbeeff5fa"), looks := true }, kinds := [], alts := [], laidByText := true, laidKinds := [.data, .data, .data, .data, .sentinel, .sentinel, .pinned], laidTests := true, laidLooks := .later }
def JournalTellsCardSaid : Prop := Claim7.holds Tryz.pinned (.plain (OpenSpec.ofChange journalTellsSpec)) journalTellsCard

/-- THE SECOND FORM's CARD OF 'shiftbelllaw.JobTells'. -/
def jobTellsUptoCard : Claim7 := { stood := { row := jobTellsUptoRow, standIns := [], harness := (true, "58e2682271be737d1c1c11d512358e3074ddc7836eaf39d62aa4f44fbeeff5fa"), looks := true }, kinds := [], alts := [], laidByText := true, laidKinds := [.data, .data, .data, .data, .sentinel, .sentinel, .pinned], laidTests := true, laidLooks := .later }
def JobTellsUptoCardSaid : Prop := Claim7.holds Tryz.pinned (.plain (OpenSpec.upto jobTellsSpec)) jobTellsUptoCard

/-- THE SECOND FORM's CARD OF 'shiftbelllaw.EventTells'. -/
def eventTellsUptoCard : Claim7 := { stood := { row := eventTellsUptoRow, standIns := [], harness := (true, "58e2682271be737d1c1c11d512358e3074ddc7836eaf39d62aa4f44fbeeff5fa"), looks := true }, kinds := [], alts := [], laidByText := true, laidKinds := [.data, .data, .data, .data, .sentinel, .sentinel, .pinned], laidTests := true, laidLooks := .later }
def EventTellsUptoCardSaid : Prop := Claim7.holds Tryz.pinned (.plain (OpenSpec.upto eventTellsSpec)) eventTellsUptoCard

/-- THE SECOND FORM's CARD OF 'shiftbelllaw.JournalTells'. -/
def journalTellsUptoCard : Claim7 := { stood := { row := journalTellsUptoRow, standIns := [], harness := (true, "58e2682271be737d1c1c11d512358e3074ddc7836eaf39d62aa4f44fbeeff5fa"), looks := true }, kinds := [], alts := [], laidByText := true, laidKinds := [.data, .data, .data, .data, .sentinel, .sentinel, .pinned], laidTests := true, laidLooks := .later }
def JournalTellsUptoCardSaid : Prop := Claim7.holds Tryz.pinned (.plain (OpenSpec.upto journalTellsSpec)) journalTellsUptoCard
end Rows
end Go.Proofs.YtkemlckmfgacdaaGreatDoor
