/- Acts of a statement: how they lie. -/
import Derived.Test.YtjoejdpoehpkiaaOwn
namespace Go.Proofs.Ytjoejdpoehpkiaa
open Go.ChangeShapes Go.WideShapes Go.ChangeAt Go.RowKit
set_option linter.unusedVariables false
structure Ac where
  kind : Int
  id : Int
  prio : Int
  at' : Int
def acts (L : List Ac) : List Value := L.flatMap fun t => [.int .i64 t.kind, .int .i64 t.id, .int .i64 t.prio, .int .i64 t.at']
theorem acts_length (L : List Ac) : (acts L).length = L.length * 4 := by
  unfold acts
  induction L with
  | nil => rfl
  | cons a l ih => rw [List.flatMap_cons, List.length_append, ih]; simp; omega
theorem acts_at : ∀ {L : List Ac} {i : Nat} {t : Ac}, L[i]? = some t → (acts L)[i * 4]? = some (.int .i64 t.kind) ∧ (acts L)[i * 4 + 1]? = some (.int .i64 t.id) ∧ (acts L)[i * 4 + 2]? = some (.int .i64 t.prio) ∧ (acts L)[i * 4 + 3]? = some (.int .i64 t.at')
  | [], i, t, h => by simp at h
  | a :: l, 0, t, h => by
    simp at h
    subst h
    simp [acts]
  | a :: l, i + 1, t, h => by
    have := acts_at (L := l) (i := i) (t := t) (by simpa using h)
    have e : acts (a :: l) = [.int .i64 a.kind, .int .i64 a.id, .int .i64 a.prio, .int .i64 a.at'] ++ acts l := by simp [acts]
    rw [e]
    rw [List.getElem?_append_right (by simp; omega), List.getElem?_append_right (by simp; omega), List.getElem?_append_right (by simp; omega), List.getElem?_append_right (by simp; omega)]
    simpa [show (i + 1) * 4 - 4 = i * 4 from by omega, show (i + 1) * 4 + 1 - 4 = i * 4 + 1 from by omega, show (i + 1) * 4 + 2 - 4 = i * 4 + 2 from by omega, show (i + 1) * 4 + 3 - 4 = i * 4 + 3 from by omega] using this
theorem actCells {w : World} {a : Option Addr} {L : List Ac} (h : Vals w a (acts L)) {j : Nat} {t : Ac} (hj : L[j]? = some t) : ∃ b off, a = some ⟨b, off, none⟩ ∧ b < w.heap.size ∧ w.cell? ⟨b, off + j * 4, none⟩ = some (.int .i64 t.kind) ∧ w.cell? ⟨b, off + j * 4 + 1, none⟩ = some (.int .i64 t.id) ∧ w.cell? ⟨b, off + j * 4 + 2, none⟩ = some (.int .i64 t.prio) ∧ w.cell? ⟨b, off + j * 4 + 3, none⟩ = some (.int .i64 t.at') := by
  have hl := (List.getElem?_eq_some_iff.1 hj).1
  obtain ⟨b, off, e, hb, hv⟩ := h (by rw [acts_length]; omega)
  obtain ⟨h1, h2, h3, h4⟩ := acts_at hj
  exact ⟨b, off, e, hb, hv _ _ h1, by rw [Nat.add_assoc]; exact hv _ _ h2, by rw [Nat.add_assoc]; exact hv _ _ h3, by rw [Nat.add_assoc]; exact hv _ _ h4⟩
end Go.Proofs.Ytjoejdpoehpkiaa
