/-
  DERIVED. GIVEN WITH THE SEED: THE CARDS: each row of YtgpkjlogofpckaaDoorRows.lean that lists a variable, with what it lists TIED to the program's text (the seventh form; the later family's looks); each row that meets fmt, with fmt's text TOLD by the authors' own Lean function (tested against real Go, not proved from fmt's source: count such statements apart). THE CARD IS WHAT COUNTS. Prove the row's statement (the work); the ties are given (YtgpkjlogofpckaaDoorTie.lean); close each card by the builder's one call (the guide's Derived/Test/ToyasCard.lean, 'card_holds'). Laid BY PROGRAM, IN A SANDBOX (cutbox-door.mjs). By AI agents, Wed Nov 11 2026. No macro, syntax, notation, axiom, sorry.
-/
import Derived.Test.YtgpkjlogofpckaaDoorRows
import GoSem.ClaimSeven
namespace Go.Proofs.YtgpkjlogofpckaaDoor
namespace Rows

/-- THE TIED CARD OF 'shiftbelllaw.NeedReads'. -/
def needReadsCard : Claim7 := { stood := { row := needReadsRow, standIns := [], harness := (true, "dd194301395ff14ab3942d3013f4125faa0dac73e7fca392da0a2054bdede7e8"), looks := true }, kinds := [], alts := [], laidByText := true, laidKinds := [.data, .data, .data, .data, .sentinel, .sentinel, .pinned], laidTests := true, laidLooks := .later }
def NeedReadsCardSaid : Prop := Claim7.holds Tryd.pinned (.plain (OpenSpec.ofChange needReadsSpec)) needReadsCard

/-- THE SECOND FORM's CARD OF 'shiftbelllaw.NeedReads'. -/
def needReadsUptoCard : Claim7 := { stood := { row := needReadsUptoRow, standIns := [], harness := (true, "dd194301395ff14ab3942d3013f4125faa0dac73e7fca392da0a2054bdede7e8"), looks := true }, kinds := [], alts := [], laidByText := true, laidKinds := [.data, .data, .data, .data, .sentinel, .sentinel, .pinned], laidTests := true, laidLooks := .later }
def NeedReadsUptoCardSaid : Prop := Claim7.holds Tryd.pinned (.plain (OpenSpec.upto needReadsSpec)) needReadsUptoCard
end Rows
end Go.Proofs.YtgpkjlogofpckaaDoor
