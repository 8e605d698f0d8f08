/-
  NARROWER THAN 'FOR EVERY INPUT', by the rows' own cells (each row's printed sentence says how): CivilTells: laid · CivilReads: laid · GraphTells: laid · GraphCloses: laid · CronGoes: laid.
  DERIVED. THE GIVEN ROWS OF THIS SEAT. 5 by the template 'for every input the law returns true; each argument reads behind the call as it read before'; 0 by the template 'total and deterministic' (their statements: YtdbipmidjdhjpaaDoorTotals.lean).
  GIVEN WITH THE SEED: the statements are not yours to turn. If you find one false, say at which input.
  Laid BY PROGRAM, IN A SANDBOX (cutbox-rows.mjs): the forced cells as the released guide's own fill.sh prints them over the translation 284dd129333f0d21… (all of the seat's roots in one cut). By AI agents, Wed Nov 11 2026. No macro, syntax, notation, axiom, sorry.
-/
import Derived.Test.YtdbipmidjdhjpaaDoorChecked
import GoSem.Claim
import GoSem.ClaimJoined
import GoSem.ClaimMapViews
import Derived.JoinedTies
import Derived.KernelRfl
namespace Go.Proofs.YtdbipmidjdhjpaaDoor
/- THE CELL 'sum', in the pinned program and in every row, IS THE sha256 OF THE DUMP (.gsa) THAT YtdbipmidjdhjpaaDoorProg.lean LOADS. Nothing in Lean hashes anything: it is a label: what it is worth is what the hold of that sum in a sandbox is worth. -/
noncomputable def Tryd.pinned : Pinned := { name := "ytdbipmidjdhjpaadoor", sum := "284dd129333f0d210887102836632b4389678f28fcc7d65a0454ede2cce19b75", checked := Tryd.checked }
namespace Rows
def none {H : Type} : Left H := { results := [], args := [] }

/- WHAT THE LISTED PACKAGE-LEVEL VARIABLES READ AS WHEN THE CALL BEGINS. Each datum BY PROGRAM (the guide's laid-datum.mjs) off the statement by which the dump's own 'gosem.cut.vars' lays the variable. In a bare row this is a premise. The card (YtdbipmidjdhjpaaDoorCards.lean) ties it to the program's text. -/
def laid_shiftbell_civil_ahead {H : Type} : DataW H := .agg [.lit (.int .i64 0), .lit (.int .i64 0), .lit (.int .i64 31), .lit (.int .i64 59), .lit (.int .i64 90), .lit (.int .i64 120), .lit (.int .i64 151), .lit (.int .i64 181), .lit (.int .i64 212), .lit (.int .i64 243), .lit (.int .i64 273), .lit (.int .i64 304), .lit (.int .i64 334)]
def laid_math_bits_deBruijn64tab {H : Type} : DataW H := .agg [.lit (.int .u8 0), .lit (.int .u8 1), .lit (.int .u8 56), .lit (.int .u8 2), .lit (.int .u8 57), .lit (.int .u8 49), .lit (.int .u8 28), .lit (.int .u8 3), .lit (.int .u8 61), .lit (.int .u8 58), .lit (.int .u8 42), .lit (.int .u8 50), .lit (.int .u8 38), .lit (.int .u8 29), .lit (.int .u8 17), .lit (.int .u8 4), .lit (.int .u8 62), .lit (.int .u8 47), .lit (.int .u8 59), .lit (.int .u8 36), .lit (.int .u8 45), .lit (.int .u8 43), .lit (.int .u8 51), .lit (.int .u8 22), .lit (.int .u8 53), .lit (.int .u8 39), .lit (.int .u8 33), .lit (.int .u8 30), .lit (.int .u8 24), .lit (.int .u8 18), .lit (.int .u8 12), .lit (.int .u8 5), .lit (.int .u8 63), .lit (.int .u8 55), .lit (.int .u8 48), .lit (.int .u8 27), .lit (.int .u8 60), .lit (.int .u8 41), .lit (.int .u8 37), .lit (.int .u8 16), .lit (.int .u8 46), .lit (.int .u8 35), .lit (.int .u8 44), .lit (.int .u8 21), .lit (.int .u8 52), .lit (.int .u8 32), .lit (.int .u8 23), .lit (.int .u8 11), .lit (.int .u8 54), .lit (.int .u8 26), .lit (.int .u8 40), .lit (.int .u8 15), .lit (.int .u8 34), .lit (.int .u8 20), .lit (.int .u8 31), .lit (.int .u8 10), .lit (.int .u8 25), .lit (.int .u8 14), .lit (.int .u8 19), .lit (.int .u8 9), .lit (.int .u8 13), .lit (.int .u8 8), .lit (.int .u8 7), .lit (.int .u8 6)]

/-- 'shiftbelllaw.CivilTells': WHATEVER THE INPUT: true; the input reads as it did. -/
def civilTellsSpec : ChangeSpec := { name := "civilTells", fn := fun _ => fun
  | [d1, d2, d3, d4] => { results := [.lit (.bool true)], args := [d1, d2, d3, d4] }
  | _ => none }
def civilTellsRow : OpenClaim := { program := "ytdbipmidjdhjpaadoor", sum := "284dd129333f0d210887102836632b4389678f28fcc7d65a0454ede2cce19b75", func := "shiftbell/shiftbelllaw.CivilTells", spec := "civilTells", named := ["shiftbell/civil.ahead"], apart := false, laid := [("shiftbell/civil.ahead", laid_shiftbell_civil_ahead)] }
def CivilTellsSaid : Prop := civilTellsRow.holds Tryd.pinned (OpenSpec.ofChange civilTellsSpec)

/-- ITS FALSE NEIGHBOUR: 'it returns false'. Refute it at one input. -/
def civilTellsWrong : ChangeSpec := { name := "civilTells", fn := fun _ => fun
  | [d1, d2, d3, d4] => { results := [.lit (.bool false)], args := [d1, d2, d3, d4] }
  | _ => none }
def CivilTellsWrongFalsely : Prop := civilTellsRow.holds Tryd.pinned (OpenSpec.ofChange civilTellsWrong)

/-- 'shiftbelllaw.CivilReads': WHATEVER THE INPUT: true; the input reads as it did. -/
def civilReadsSpec : ChangeSpec := { name := "civilReads", fn := fun _ => fun
  | [d1, d2, d3] => { results := [.lit (.bool true)], args := [d1, d2, d3] }
  | _ => none }
def civilReadsRow : OpenClaim := { program := "ytdbipmidjdhjpaadoor", sum := "284dd129333f0d210887102836632b4389678f28fcc7d65a0454ede2cce19b75", func := "shiftbell/shiftbelllaw.CivilReads", spec := "civilReads", named := ["shiftbell/civil.ahead"], apart := false, laid := [("shiftbell/civil.ahead", laid_shiftbell_civil_ahead)] }
def CivilReadsSaid : Prop := civilReadsRow.holds Tryd.pinned (OpenSpec.ofChange civilReadsSpec)

/-- ITS FALSE NEIGHBOUR: 'it returns false'. Refute it at one input. -/
def civilReadsWrong : ChangeSpec := { name := "civilReads", fn := fun _ => fun
  | [d1, d2, d3] => { results := [.lit (.bool false)], args := [d1, d2, d3] }
  | _ => none }
def CivilReadsWrongFalsely : Prop := civilReadsRow.holds Tryd.pinned (OpenSpec.ofChange civilReadsWrong)

/-- 'shiftbelllaw.GraphTells': WHATEVER THE INPUT: true; the input reads as it did. -/
def graphTellsSpec : ChangeSpec := { name := "graphTells", fn := fun _ => fun
  | [d1, d2, d3] => { results := [.lit (.bool true)], args := [d1, d2, d3] }
  | _ => none }
def graphTellsRow : OpenClaim := { program := "ytdbipmidjdhjpaadoor", sum := "284dd129333f0d210887102836632b4389678f28fcc7d65a0454ede2cce19b75", func := "shiftbell/shiftbelllaw.GraphTells", spec := "graphTells", named := ["math/bits.deBruijn64tab"], apart := false, laid := [("math/bits.deBruijn64tab", laid_math_bits_deBruijn64tab)] }
def GraphTellsSaid : Prop := graphTellsRow.holds Tryd.pinned (OpenSpec.ofChange graphTellsSpec)

/-- ITS FALSE NEIGHBOUR: 'it returns false'. Refute it at one input. -/
def graphTellsWrong : ChangeSpec := { name := "graphTells", fn := fun _ => fun
  | [d1, d2, d3] => { results := [.lit (.bool false)], args := [d1, d2, d3] }
  | _ => none }
def GraphTellsWrongFalsely : Prop := graphTellsRow.holds Tryd.pinned (OpenSpec.ofChange graphTellsWrong)

/-- 'shiftbelllaw.GraphCloses': WHATEVER THE INPUT: true; the input reads as it did. -/
def graphClosesSpec : ChangeSpec := { name := "graphCloses", fn := fun _ => fun
  | [d1, d2] => { results := [.lit (.bool true)], args := [d1, d2] }
  | _ => none }
def graphClosesRow : OpenClaim := { program := "ytdbipmidjdhjpaadoor", sum := "284dd129333f0d210887102836632b4389678f28fcc7d65a0454ede2cce19b75", func := "shiftbell/shiftbelllaw.GraphCloses", spec := "graphCloses", named := ["math/bits.deBruijn64tab"], apart := false, laid := [("math/bits.deBruijn64tab", laid_math_bits_deBruijn64tab)] }
def GraphClosesSaid : Prop := graphClosesRow.holds Tryd.pinned (OpenSpec.ofChange graphClosesSpec)

/-- ITS FALSE NEIGHBOUR: 'it returns false'. Refute it at one input. -/
def graphClosesWrong : ChangeSpec := { name := "graphCloses", fn := fun _ => fun
  | [d1, d2] => { results := [.lit (.bool false)], args := [d1, d2] }
  | _ => none }
def GraphClosesWrongFalsely : Prop := graphClosesRow.holds Tryd.pinned (OpenSpec.ofChange graphClosesWrong)

/-- 'shiftbelllaw.CronGoes': WHATEVER THE INPUT: true; the input reads as it did. -/
def cronGoesSpec : ChangeSpec := { name := "cronGoes", fn := fun _ => fun
  | [d1, d2] => { results := [.lit (.bool true)], args := [d1, d2] }
  | _ => none }
def cronGoesRow : OpenClaim := { program := "ytdbipmidjdhjpaadoor", sum := "284dd129333f0d210887102836632b4389678f28fcc7d65a0454ede2cce19b75", func := "shiftbell/shiftbelllaw.CronGoes", spec := "cronGoes", named := ["shiftbell/civil.ahead", "math/bits.deBruijn64tab"], apart := false, laid := [("math/bits.deBruijn64tab", laid_math_bits_deBruijn64tab), ("shiftbell/civil.ahead", laid_shiftbell_civil_ahead)] }
def CronGoesSaid : Prop := cronGoesRow.holds Tryd.pinned (OpenSpec.ofChange cronGoesSpec)

/-- ITS FALSE NEIGHBOUR: 'it returns false'. Refute it at one input. -/
def cronGoesWrong : ChangeSpec := { name := "cronGoes", fn := fun _ => fun
  | [d1, d2] => { results := [.lit (.bool false)], args := [d1, d2] }
  | _ => none }
def CronGoesWrongFalsely : Prop := cronGoesRow.holds Tryd.pinned (OpenSpec.ofChange cronGoesWrong)

/- THE SECOND FORM. 'bulk': how many values and letters a reading holds, each counted each time it is reached (what is shared counts as often as it is met; a slice's spare places count too). A statement '..UptoSaid' is the law's where the arguments, and the package variables that the reading takes, are together of bulk at most 1048576: NARROWER than '..Said'. Prove '..Said' where nothing that the law and all that it calls make is longer than what came in: it says more and counts as full. Else prove '..UptoSaid'. A law counts once. -/
mutual
def uptoBulk {H : Type} : DataW H → Nat
  | .lit (.string bytes) => bytes.length + 1
  | .lit _ => 1
  | .nil => 1
  | .ptr d => uptoBulk d + 1
  | .slice elems spare => uptoBulkAll elems + uptoBulkAll spare + 1
  | .agg parts => uptoBulkAll parts + 1
  | .iface _ d => uptoBulk d + 1
  | .map entries => uptoBulkEntries entries + 1
  | .held _ => 1
def uptoBulkAll {H : Type} : List (DataW H) → Nat
  | [] => 0
  | d :: r => uptoBulk d + uptoBulkAll r
def uptoBulkEntries {H : Type} : List (Lit × DataW H) → Nat
  | [] => 0
  | x :: r => uptoBulkEntry x + uptoBulkEntries r
def uptoBulkEntry {H : Type} : Lit × DataW H → Nat
  | (.string bytes, d) => bytes.length + uptoBulk d + 1
  | (_, d) => uptoBulk d + 1
 end
def uptoSmall : (H : Type) → List (DataW H) → Bool := fun _ ds => decide (uptoBulkAll ds ≤ 1048576)
def OpenSpec.upto (s : _root_.Go.ChangeSpec) : _root_.Go.OpenSpec := { _root_.Go.OpenSpec.ofChange s with cond := some uptoSmall }

/-- 'shiftbelllaw.CivilTells', WHERE WHAT IT READS IS OF BULK AT MOST 1048576: true; the input reads as it did. -/
def civilTellsUptoRow : OpenClaim := { program := "ytdbipmidjdhjpaadoor", sum := "284dd129333f0d210887102836632b4389678f28fcc7d65a0454ede2cce19b75", func := "shiftbell/shiftbelllaw.CivilTells", spec := "civilTells", named := ["shiftbell/civil.ahead"], apart := false, laid := [("shiftbell/civil.ahead", laid_shiftbell_civil_ahead)], narrowed := true }
def CivilTellsUptoSaid : Prop := civilTellsUptoRow.holds Tryd.pinned (OpenSpec.upto civilTellsSpec)

/-- 'shiftbelllaw.CivilReads', WHERE WHAT IT READS IS OF BULK AT MOST 1048576: true; the input reads as it did. -/
def civilReadsUptoRow : OpenClaim := { program := "ytdbipmidjdhjpaadoor", sum := "284dd129333f0d210887102836632b4389678f28fcc7d65a0454ede2cce19b75", func := "shiftbell/shiftbelllaw.CivilReads", spec := "civilReads", named := ["shiftbell/civil.ahead"], apart := false, laid := [("shiftbell/civil.ahead", laid_shiftbell_civil_ahead)], narrowed := true }
def CivilReadsUptoSaid : Prop := civilReadsUptoRow.holds Tryd.pinned (OpenSpec.upto civilReadsSpec)

/-- 'shiftbelllaw.GraphTells', WHERE WHAT IT READS IS OF BULK AT MOST 1048576: true; the input reads as it did. -/
def graphTellsUptoRow : OpenClaim := { program := "ytdbipmidjdhjpaadoor", sum := "284dd129333f0d210887102836632b4389678f28fcc7d65a0454ede2cce19b75", func := "shiftbell/shiftbelllaw.GraphTells", spec := "graphTells", named := ["math/bits.deBruijn64tab"], apart := false, laid := [("math/bits.deBruijn64tab", laid_math_bits_deBruijn64tab)], narrowed := true }
def GraphTellsUptoSaid : Prop := graphTellsUptoRow.holds Tryd.pinned (OpenSpec.upto graphTellsSpec)

/-- 'shiftbelllaw.GraphCloses', WHERE WHAT IT READS IS OF BULK AT MOST 1048576: true; the input reads as it did. -/
def graphClosesUptoRow : OpenClaim := { program := "ytdbipmidjdhjpaadoor", sum := "284dd129333f0d210887102836632b4389678f28fcc7d65a0454ede2cce19b75", func := "shiftbell/shiftbelllaw.GraphCloses", spec := "graphCloses", named := ["math/bits.deBruijn64tab"], apart := false, laid := [("math/bits.deBruijn64tab", laid_math_bits_deBruijn64tab)], narrowed := true }
def GraphClosesUptoSaid : Prop := graphClosesUptoRow.holds Tryd.pinned (OpenSpec.upto graphClosesSpec)

/-- 'shiftbelllaw.CronGoes', WHERE WHAT IT READS IS OF BULK AT MOST 1048576: true; the input reads as it did. -/
def cronGoesUptoRow : OpenClaim := { program := "ytdbipmidjdhjpaadoor", sum := "284dd129333f0d210887102836632b4389678f28fcc7d65a0454ede2cce19b75", func := "shiftbell/shiftbelllaw.CronGoes", spec := "cronGoes", named := ["shiftbell/civil.ahead", "math/bits.deBruijn64tab"], apart := false, laid := [("math/bits.deBruijn64tab", laid_math_bits_deBruijn64tab), ("shiftbell/civil.ahead", laid_shiftbell_civil_ahead)], narrowed := true }
def CronGoesUptoSaid : Prop := cronGoesUptoRow.holds Tryd.pinned (OpenSpec.upto cronGoesSpec)

end Rows
end Go.Proofs.YtdbipmidjdhjpaaDoor
