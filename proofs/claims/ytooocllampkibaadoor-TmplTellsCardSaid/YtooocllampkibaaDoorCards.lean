/-
  DERIVED. GIVEN WITH THE SEED: THE CARDS: each row of YtooocllampkibaaDoorRows.lean that lists a variable, with what it lists TIED to the program's text (the seventh form; the later family's looks); each row that meets fmt, with fmt's text TOLD by the authors' own Lean function (tested against real Go, not proved from fmt's source: count such statements apart). THE CARD IS WHAT COUNTS. Prove the row's statement (the work); the ties are given (YtooocllampkibaaDoorTie.lean); close each card by the builder's one call (the guide's Derived/Test/ToyasCard.lean, 'card_holds'). Laid BY PROGRAM, IN A SANDBOX (cutbox-door.mjs). By AI agents, Wed Nov 11 2026. No macro, syntax, notation, axiom, sorry.
-/
import Derived.Test.YtooocllampkibaaDoorRows
import GoSem.ClaimSeven
namespace Go.Proofs.YtooocllampkibaaDoor
namespace Rows

/-- THE TIED CARD OF 'shiftbelllaw.TmplTells'. -/
def tmplTellsCard : Claim7 := { stood := { row := tmplTellsRow, standIns := [], harness := (true, "a0d093f958cd318de9b16a8a593c210e0a83e37747ace3f95689b957d8700ef1"), looks := false }, kinds := [], alts := [], laidByText := true, laidKinds := [.data, .pinned], laidTests := true, laidLooks := .later }
def TmplTellsCardSaid : Prop := Claim7.holds Tryd.pinned (.plain (OpenSpec.ofChange tmplTellsSpec)) tmplTellsCard

/-- THE SECOND FORM's CARD OF 'shiftbelllaw.TmplTells'. -/
def tmplTellsUptoCard : Claim7 := { stood := { row := tmplTellsUptoRow, standIns := [], harness := (true, "a0d093f958cd318de9b16a8a593c210e0a83e37747ace3f95689b957d8700ef1"), looks := false }, kinds := [], alts := [], laidByText := true, laidKinds := [.data, .pinned], laidTests := true, laidLooks := .later }
def TmplTellsUptoCardSaid : Prop := Claim7.holds Tryd.pinned (.plain (OpenSpec.upto tmplTellsSpec)) tmplTellsUptoCard
end Rows
end Go.Proofs.YtooocllampkibaaDoor
