/-
  NARROWER THAN 'FOR EVERY INPUT', by the rows' own cells (each row's printed sentence says how): JournalPlays: loops.
  DERIVED. THE GIVEN ROWS OF THIS SEAT. 7 by the template 'for every input the law returns true; each argument reads behind the call as it read before'; 0 by the template 'total and deterministic' (their statements: YtdbipmidjdhjpaaTotals.lean).
  GIVEN WITH THE SEED: the statements are not yours to turn. If you find one false, say at which input.
  Laid BY PROGRAM, IN A SANDBOX (cutbox-rows.mjs): the forced cells as the released guide's own fill.sh prints them over the translation c9114ab233ced099… (all of the seat's roots in one cut). By AI agents, Wed Nov 11 2026. No macro, syntax, notation, axiom, sorry.
-/
import Derived.Test.YtdbipmidjdhjpaaChecked
import GoSem.Claim
import GoSem.ClaimJoined
import GoSem.ClaimMapViews
import Derived.JoinedTies
import Derived.KernelRfl
namespace Go.Proofs.Ytdbipmidjdhjpaa
/- THE CELL 'sum', in the pinned program and in every row, IS THE sha256 OF THE DUMP (.gsa) THAT YtdbipmidjdhjpaaProg.lean LOADS. Nothing in Lean hashes anything: it is a label: what it is worth is what the hold of that sum in a sandbox is worth. -/
noncomputable def Try.pinned : Pinned := { name := "ytdbipmidjdhjpaa", sum := "c9114ab233ced099028a033af919f33e7cbecf7bce4d15e9fdc281a75862db55", checked := Try.checked }
namespace Rows
def none {H : Type} : Left H := { results := [], args := [] }

/-- 'shiftbelllaw.Names': WHATEVER THE INPUT: true; the input reads as it did. -/
def namesSpec : ChangeSpec := { name := "names", fn := fun _ => fun
  | [] => { results := [.lit (.bool true)], args := [] }
  | _ => none }
def namesRow : OpenClaim := { program := "ytdbipmidjdhjpaa", sum := "c9114ab233ced099028a033af919f33e7cbecf7bce4d15e9fdc281a75862db55", func := "shiftbell/shiftbelllaw.Names", spec := "names", apart := false }
def NamesSaid : Prop := namesRow.holds Try.pinned (OpenSpec.ofChange namesSpec)

/-- ITS FALSE NEIGHBOUR: 'it returns false'. Refute it at one input. -/
def namesWrong : ChangeSpec := { name := "names", fn := fun _ => fun
  | [] => { results := [.lit (.bool false)], args := [] }
  | _ => none }
def NamesWrongFalsely : Prop := namesRow.holds Try.pinned (OpenSpec.ofChange namesWrong)

/-- 'shiftbelllaw.JournalPlays': WHATEVER THE INPUT: true; the input reads as it did. -/
def journalPlaysSpec : ChangeSpec := { name := "journalPlays", fn := fun _ => fun
  | [d] => { results := [.lit (.bool true)], args := [d] }
  | _ => none }
def journalPlaysRow : OpenClaim := { program := "ytdbipmidjdhjpaa", sum := "c9114ab233ced099028a033af919f33e7cbecf7bce4d15e9fdc281a75862db55", func := "shiftbell/shiftbelllaw.JournalPlays", spec := "journalPlays", loops := true, apart := false }
def JournalPlaysSaid : Prop := journalPlaysRow.holds Try.pinned (OpenSpec.ofChange journalPlaysSpec)

/-- ITS FALSE NEIGHBOUR: 'it returns false'. Refute it at one input. -/
def journalPlaysWrong : ChangeSpec := { name := "journalPlays", fn := fun _ => fun
  | [d] => { results := [.lit (.bool false)], args := [d] }
  | _ => none }
def JournalPlaysWrongFalsely : Prop := journalPlaysRow.holds Try.pinned (OpenSpec.ofChange journalPlaysWrong)

/-- 'shiftbelllaw.RetryBuckets': WHATEVER THE INPUT: true; the input reads as it did. -/
def retryBucketsSpec : ChangeSpec := { name := "retryBuckets", fn := fun _ => fun
  | [d1, d2, d3] => { results := [.lit (.bool true)], args := [d1, d2, d3] }
  | _ => none }
def retryBucketsRow : OpenClaim := { program := "ytdbipmidjdhjpaa", sum := "c9114ab233ced099028a033af919f33e7cbecf7bce4d15e9fdc281a75862db55", func := "shiftbell/shiftbelllaw.RetryBuckets", spec := "retryBuckets", apart := false }
def RetryBucketsSaid : Prop := retryBucketsRow.holds Try.pinned (OpenSpec.ofChange retryBucketsSpec)

/-- ITS FALSE NEIGHBOUR: 'it returns false'. Refute it at one input. -/
def retryBucketsWrong : ChangeSpec := { name := "retryBuckets", fn := fun _ => fun
  | [d1, d2, d3] => { results := [.lit (.bool false)], args := [d1, d2, d3] }
  | _ => none }
def RetryBucketsWrongFalsely : Prop := retryBucketsRow.holds Try.pinned (OpenSpec.ofChange retryBucketsWrong)

/-- 'shiftbelllaw.RetryTells': WHATEVER THE INPUT: true; the input reads as it did. -/
def retryTellsSpec : ChangeSpec := { name := "retryTells", fn := fun _ => fun
  | [d1, d2, d3] => { results := [.lit (.bool true)], args := [d1, d2, d3] }
  | _ => none }
def retryTellsRow : OpenClaim := { program := "ytdbipmidjdhjpaa", sum := "c9114ab233ced099028a033af919f33e7cbecf7bce4d15e9fdc281a75862db55", func := "shiftbell/shiftbelllaw.RetryTells", spec := "retryTells", recurses := true, apart := false }
def RetryTellsSaid : Prop := retryTellsRow.holds Try.pinned (OpenSpec.ofChange retryTellsSpec)

/-- ITS FALSE NEIGHBOUR: 'it returns false'. Refute it at one input. -/
def retryTellsWrong : ChangeSpec := { name := "retryTells", fn := fun _ => fun
  | [d1, d2, d3] => { results := [.lit (.bool false)], args := [d1, d2, d3] }
  | _ => none }
def RetryTellsWrongFalsely : Prop := retryTellsRow.holds Try.pinned (OpenSpec.ofChange retryTellsWrong)

/-- 'shiftbelllaw.NeedTells': WHATEVER THE INPUT: true; the input reads as it did. -/
def needTellsSpec : ChangeSpec := { name := "needTells", fn := fun _ => fun
  | [d1, d2, d3] => { results := [.lit (.bool true)], args := [d1, d2, d3] }
  | _ => none }
def needTellsRow : OpenClaim := { program := "ytdbipmidjdhjpaa", sum := "c9114ab233ced099028a033af919f33e7cbecf7bce4d15e9fdc281a75862db55", func := "shiftbell/shiftbelllaw.NeedTells", spec := "needTells", apart := false }
def NeedTellsSaid : Prop := needTellsRow.holds Try.pinned (OpenSpec.ofChange needTellsSpec)

/-- ITS FALSE NEIGHBOUR: 'it returns false'. Refute it at one input. -/
def needTellsWrong : ChangeSpec := { name := "needTells", fn := fun _ => fun
  | [d1, d2, d3] => { results := [.lit (.bool false)], args := [d1, d2, d3] }
  | _ => none }
def NeedTellsWrongFalsely : Prop := needTellsRow.holds Try.pinned (OpenSpec.ofChange needTellsWrong)

/-- 'shiftbelllaw.DueTells': WHATEVER THE INPUT: true; the input reads as it did. -/
def dueTellsSpec : ChangeSpec := { name := "dueTells", fn := fun _ => fun
  | [d1, d2] => { results := [.lit (.bool true)], args := [d1, d2] }
  | _ => none }
def dueTellsRow : OpenClaim := { program := "ytdbipmidjdhjpaa", sum := "c9114ab233ced099028a033af919f33e7cbecf7bce4d15e9fdc281a75862db55", func := "shiftbell/shiftbelllaw.DueTells", spec := "dueTells", apart := false }
def DueTellsSaid : Prop := dueTellsRow.holds Try.pinned (OpenSpec.ofChange dueTellsSpec)

/-- ITS FALSE NEIGHBOUR: 'it returns false'. Refute it at one input. -/
def dueTellsWrong : ChangeSpec := { name := "dueTells", fn := fun _ => fun
  | [d1, d2] => { results := [.lit (.bool false)], args := [d1, d2] }
  | _ => none }
def DueTellsWrongFalsely : Prop := dueTellsRow.holds Try.pinned (OpenSpec.ofChange dueTellsWrong)

/-- 'shiftbelllaw.AssignTells': WHATEVER THE INPUT: true; the input reads as it did. -/
def assignTellsSpec : ChangeSpec := { name := "assignTells", fn := fun _ => fun
  | [d1, d2] => { results := [.lit (.bool true)], args := [d1, d2] }
  | _ => none }
def assignTellsRow : OpenClaim := { program := "ytdbipmidjdhjpaa", sum := "c9114ab233ced099028a033af919f33e7cbecf7bce4d15e9fdc281a75862db55", func := "shiftbell/shiftbelllaw.AssignTells", spec := "assignTells", unfollowed := true, recurses := true, apart := false }
def AssignTellsSaid : Prop := assignTellsRow.holds Try.pinned (OpenSpec.ofChange assignTellsSpec)

/-- ITS FALSE NEIGHBOUR: 'it returns false'. Refute it at one input. -/
def assignTellsWrong : ChangeSpec := { name := "assignTells", fn := fun _ => fun
  | [d1, d2] => { results := [.lit (.bool false)], args := [d1, d2] }
  | _ => none }
def AssignTellsWrongFalsely : Prop := assignTellsRow.holds Try.pinned (OpenSpec.ofChange assignTellsWrong)

/- THE SECOND FORM. 'bulk': how many values and letters a reading holds, each counted each time it is reached (what is shared counts as often as it is met; a slice's spare places count too). A statement '..UptoSaid' is the law's where the arguments, and the package variables that the reading takes, are together of bulk at most 1048576: NARROWER than '..Said'. Prove '..Said' where nothing that the law and all that it calls make is longer than what came in: it says more and counts as full. Else prove '..UptoSaid'. A law counts once. -/
mutual
def uptoBulk {H : Type} : DataW H → Nat
  | .lit (.string bytes) => bytes.length + 1
  | .lit _ => 1
  | .nil => 1
  | .ptr d => uptoBulk d + 1
  | .slice elems spare => uptoBulkAll elems + uptoBulkAll spare + 1
  | .agg parts => uptoBulkAll parts + 1
  | .iface _ d => uptoBulk d + 1
  | .map entries => uptoBulkEntries entries + 1
  | .held _ => 1
def uptoBulkAll {H : Type} : List (DataW H) → Nat
  | [] => 0
  | d :: r => uptoBulk d + uptoBulkAll r
def uptoBulkEntries {H : Type} : List (Lit × DataW H) → Nat
  | [] => 0
  | x :: r => uptoBulkEntry x + uptoBulkEntries r
def uptoBulkEntry {H : Type} : Lit × DataW H → Nat
  | (.string bytes, d) => bytes.length + uptoBulk d + 1
  | (_, d) => uptoBulk d + 1
 end
def uptoSmall : (H : Type) → List (DataW H) → Bool := fun _ ds => decide (uptoBulkAll ds ≤ 1048576)
def OpenSpec.upto (s : _root_.Go.ChangeSpec) : _root_.Go.OpenSpec := { _root_.Go.OpenSpec.ofChange s with cond := some uptoSmall }

/-- 'shiftbelllaw.Names', WHERE WHAT IT READS IS OF BULK AT MOST 1048576: true; the input reads as it did. -/
def namesUptoRow : OpenClaim := { program := "ytdbipmidjdhjpaa", sum := "c9114ab233ced099028a033af919f33e7cbecf7bce4d15e9fdc281a75862db55", func := "shiftbell/shiftbelllaw.Names", spec := "names", apart := false, narrowed := true }
def NamesUptoSaid : Prop := namesUptoRow.holds Try.pinned (OpenSpec.upto namesSpec)

/-- 'shiftbelllaw.JournalPlays', WHERE WHAT IT READS IS OF BULK AT MOST 1048576: true; the input reads as it did. -/
def journalPlaysUptoRow : OpenClaim := { program := "ytdbipmidjdhjpaa", sum := "c9114ab233ced099028a033af919f33e7cbecf7bce4d15e9fdc281a75862db55", func := "shiftbell/shiftbelllaw.JournalPlays", spec := "journalPlays", loops := true, apart := false, narrowed := true }
def JournalPlaysUptoSaid : Prop := journalPlaysUptoRow.holds Try.pinned (OpenSpec.upto journalPlaysSpec)

/-- 'shiftbelllaw.RetryBuckets', WHERE WHAT IT READS IS OF BULK AT MOST 1048576: true; the input reads as it did. -/
def retryBucketsUptoRow : OpenClaim := { program := "ytdbipmidjdhjpaa", sum := "c9114ab233ced099028a033af919f33e7cbecf7bce4d15e9fdc281a75862db55", func := "shiftbell/shiftbelllaw.RetryBuckets", spec := "retryBuckets", apart := false, narrowed := true }
def RetryBucketsUptoSaid : Prop := retryBucketsUptoRow.holds Try.pinned (OpenSpec.upto retryBucketsSpec)

/-- 'shiftbelllaw.RetryTells', WHERE WHAT IT READS IS OF BULK AT MOST 1048576: true; the input reads as it did. -/
def retryTellsUptoRow : OpenClaim := { program := "ytdbipmidjdhjpaa", sum := "c9114ab233ced099028a033af919f33e7cbecf7bce4d15e9fdc281a75862db55", func := "shiftbell/shiftbelllaw.RetryTells", spec := "retryTells", recurses := true, apart := false, narrowed := true }
def RetryTellsUptoSaid : Prop := retryTellsUptoRow.holds Try.pinned (OpenSpec.upto retryTellsSpec)

/-- 'shiftbelllaw.NeedTells', WHERE WHAT IT READS IS OF BULK AT MOST 1048576: true; the input reads as it did. -/
def needTellsUptoRow : OpenClaim := { program := "ytdbipmidjdhjpaa", sum := "c9114ab233ced099028a033af919f33e7cbecf7bce4d15e9fdc281a75862db55", func := "shiftbell/shiftbelllaw.NeedTells", spec := "needTells", apart := false, narrowed := true }
def NeedTellsUptoSaid : Prop := needTellsUptoRow.holds Try.pinned (OpenSpec.upto needTellsSpec)

/-- 'shiftbelllaw.DueTells', WHERE WHAT IT READS IS OF BULK AT MOST 1048576: true; the input reads as it did. -/
def dueTellsUptoRow : OpenClaim := { program := "ytdbipmidjdhjpaa", sum := "c9114ab233ced099028a033af919f33e7cbecf7bce4d15e9fdc281a75862db55", func := "shiftbell/shiftbelllaw.DueTells", spec := "dueTells", apart := false, narrowed := true }
def DueTellsUptoSaid : Prop := dueTellsUptoRow.holds Try.pinned (OpenSpec.upto dueTellsSpec)

/-- 'shiftbelllaw.AssignTells', WHERE WHAT IT READS IS OF BULK AT MOST 1048576: true; the input reads as it did. -/
def assignTellsUptoRow : OpenClaim := { program := "ytdbipmidjdhjpaa", sum := "c9114ab233ced099028a033af919f33e7cbecf7bce4d15e9fdc281a75862db55", func := "shiftbell/shiftbelllaw.AssignTells", spec := "assignTells", unfollowed := true, recurses := true, apart := false, narrowed := true }
def AssignTellsUptoSaid : Prop := assignTellsUptoRow.holds Try.pinned (OpenSpec.upto assignTellsSpec)

end Rows
end Go.Proofs.Ytdbipmidjdhjpaa
