/-
  DERIVED. GIVEN WITH THE SEED: THE CARDS: each row of YtdbipmidjdhjpaaDoorRows.lean that lists a variable, with what it lists TIED to the program's text (the seventh form; the later family's looks); each row that meets fmt, with fmt's text TOLD by the authors' own Lean function (tested against real Go, not proved from fmt's source: count such statements apart). THE CARD IS WHAT COUNTS. Prove the row's statement (the work); the ties are given (YtdbipmidjdhjpaaDoorTie.lean); close each card by the builder's one call (the guide's Derived/Test/ToyasCard.lean, 'card_holds'). Laid BY PROGRAM, IN A SANDBOX (cutbox-door.mjs). By AI agents, Wed Nov 11 2026. No macro, syntax, notation, axiom, sorry.
-/
import Derived.Test.YtdbipmidjdhjpaaDoorRows
import GoSem.ClaimSeven
namespace Go.Proofs.YtdbipmidjdhjpaaDoor
namespace Rows

/-- THE TIED CARD OF 'shiftbelllaw.CivilTells'. -/
def civilTellsCard : Claim7 := { stood := { row := civilTellsRow, standIns := [], harness := (true, "6b159bf95b59b7e6c64e2b2d4082343bc4b9de5488966295c87f6ab4d8a81526"), looks := false }, kinds := [], alts := [], laidByText := true, laidKinds := [.data], laidTests := true, laidLooks := .later }
def CivilTellsCardSaid : Prop := Claim7.holds Tryd.pinned (.plain (OpenSpec.ofChange civilTellsSpec)) civilTellsCard

/-- THE TIED CARD OF 'shiftbelllaw.CivilReads'. -/
def civilReadsCard : Claim7 := { stood := { row := civilReadsRow, standIns := [], harness := (true, "6b159bf95b59b7e6c64e2b2d4082343bc4b9de5488966295c87f6ab4d8a81526"), looks := false }, kinds := [], alts := [], laidByText := true, laidKinds := [.data], laidTests := true, laidLooks := .later }
def CivilReadsCardSaid : Prop := Claim7.holds Tryd.pinned (.plain (OpenSpec.ofChange civilReadsSpec)) civilReadsCard

/-- THE TIED CARD OF 'shiftbelllaw.GraphTells'. -/
def graphTellsCard : Claim7 := { stood := { row := graphTellsRow, standIns := [], harness := (true, "6b159bf95b59b7e6c64e2b2d4082343bc4b9de5488966295c87f6ab4d8a81526"), looks := false }, kinds := [], alts := [], laidByText := true, laidKinds := [.data], laidTests := true, laidLooks := .later }
def GraphTellsCardSaid : Prop := Claim7.holds Tryd.pinned (.plain (OpenSpec.ofChange graphTellsSpec)) graphTellsCard

/-- THE TIED CARD OF 'shiftbelllaw.GraphCloses'. -/
def graphClosesCard : Claim7 := { stood := { row := graphClosesRow, standIns := [], harness := (true, "6b159bf95b59b7e6c64e2b2d4082343bc4b9de5488966295c87f6ab4d8a81526"), looks := false }, kinds := [], alts := [], laidByText := true, laidKinds := [.data], laidTests := true, laidLooks := .later }
def GraphClosesCardSaid : Prop := Claim7.holds Tryd.pinned (.plain (OpenSpec.ofChange graphClosesSpec)) graphClosesCard

/-- THE TIED CARD OF 'shiftbelllaw.CronGoes'. -/
def cronGoesCard : Claim7 := { stood := { row := cronGoesRow, standIns := [], harness := (true, "6b159bf95b59b7e6c64e2b2d4082343bc4b9de5488966295c87f6ab4d8a81526"), looks := false }, kinds := [], alts := [], laidByText := true, laidKinds := [.data, .data], laidTests := true, laidLooks := .later }
def CronGoesCardSaid : Prop := Claim7.holds Tryd.pinned (.plain (OpenSpec.ofChange cronGoesSpec)) cronGoesCard

/-- THE SECOND FORM's CARD OF 'shiftbelllaw.CivilTells'. -/
def civilTellsUptoCard : Claim7 := { stood := { row := civilTellsUptoRow, standIns := [], harness := (true, "6b159bf95b59b7e6c64e2b2d4082343bc4b9de5488966295c87f6ab4d8a81526"), looks := false }, kinds := [], alts := [], laidByText := true, laidKinds := [.data], laidTests := true, laidLooks := .later }
def CivilTellsUptoCardSaid : Prop := Claim7.holds Tryd.pinned (.plain (OpenSpec.upto civilTellsSpec)) civilTellsUptoCard

/-- THE SECOND FORM's CARD OF 'shiftbelllaw.CivilReads'. -/
def civilReadsUptoCard : Claim7 := { stood := { row := civilReadsUptoRow, standIns := [], harness := (true, "6b159bf95b59b7e6c64e2b2d4082343bc4b9de5488966295c87f6ab4d8a81526"), looks := false }, kinds := [], alts := [], laidByText := true, laidKinds := [.data], laidTests := true, laidLooks := .later }
def CivilReadsUptoCardSaid : Prop := Claim7.holds Tryd.pinned (.plain (OpenSpec.upto civilReadsSpec)) civilReadsUptoCard

/-- THE SECOND FORM's CARD OF 'shiftbelllaw.GraphTells'. -/
def graphTellsUptoCard : Claim7 := { stood := { row := graphTellsUptoRow, standIns := [], harness := (true, "6b159bf95b59b7e6c64e2b2d4082343bc4b9de5488966295c87f6ab4d8a81526"), looks := false }, kinds := [], alts := [], laidByText := true, laidKinds := [.data], laidTests := true, laidLooks := .later }
def GraphTellsUptoCardSaid : Prop := Claim7.holds Tryd.pinned (.plain (OpenSpec.upto graphTellsSpec)) graphTellsUptoCard

/-- THE SECOND FORM's CARD OF 'shiftbelllaw.GraphCloses'. -/
def graphClosesUptoCard : Claim7 := { stood := { row := graphClosesUptoRow, standIns := [], harness := (true, "6b159bf95b59b7e6c64e2b2d4082343bc4b9de5488966295c87f6ab4d8a81526"), looks := false }, kinds := [], alts := [], laidByText := true, laidKinds := [.data], laidTests := true, laidLooks := .later }
def GraphClosesUptoCardSaid : Prop := Claim7.holds Tryd.pinned (.plain (OpenSpec.upto graphClosesSpec)) graphClosesUptoCard

/-- THE SECOND FORM's CARD OF 'shiftbelllaw.CronGoes'. -/
def cronGoesUptoCard : Claim7 := { stood := { row := cronGoesUptoRow, standIns := [], harness := (true, "6b159bf95b59b7e6c64e2b2d4082343bc4b9de5488966295c87f6ab4d8a81526"), looks := false }, kinds := [], alts := [], laidByText := true, laidKinds := [.data, .data], laidTests := true, laidLooks := .later }
def CronGoesUptoCardSaid : Prop := Claim7.holds Tryd.pinned (.plain (OpenSpec.upto cronGoesSpec)) cronGoesUptoCard
end Rows
end Go.Proofs.YtdbipmidjdhjpaaDoor
