/- Texts as lists of bytes. -/
import Derived.Test.YtddcaabhbbdbpaaDoorBase
import Derived.Laws.Strings2
import Derived.Laws.IdiomStrings
import Derived.WalkSpells
import Derived.Deep.LoopGhost
namespace Go.Proofs.YtddcaabhbbdbpaaDoor
set_option linter.unusedVariables false
def lst (s : ByteArray) : List UInt8 := s.data.toList
theorem lst_len (s : ByteArray) : (lst s).length = s.size := by
  unfold lst
  exact Array.length_toList
theorem lst_at {s : ByteArray} {j : Nat} {c : UInt8} (h : (lst s)[j]? = some c) (hj : j < s.size) : s[j]'hj = c := by
  have := (List.getElem?_eq_some_iff.1 h)
  obtain ⟨h1, h2⟩ := this
  rw [← h2]
  rfl
end Go.Proofs.YtddcaabhbbdbpaaDoor
