/- Plain facts: the things of a queue taken one after the other, the first of those left each time; the document's choice. -/
import Derived.Test.YtfjoakhcgpckgaaQueueSortM
namespace Go.Proofs.Ytfjoakhcgpckgaa.Hp
set_option linter.unusedVariables false
/-- taken and left: together all; the taken stand in a row, none of them is behind one that is left -/
structure Taken (all out left : List Th) : Prop where
  perm : (out ++ left).Perm all
  row : out.Pairwise le
  ahead : ∀ a, a ∈ out → ∀ b, b ∈ left → le a b
theorem Taken.start (all : List Th) : Taken all [] all := ⟨List.Perm.refl _, List.Pairwise.nil, fun a h => absurd h (by simp)⟩
theorem Taken.done {all out : List Th} (h : Taken all out []) : out.Perm all ∧ out.Pairwise le := ⟨by have := h.perm; rwa [List.append_nil] at this, h.row⟩
theorem Taken.step {all out left left' : List Th} {b : Th} (h : Taken all out left) (hp : (left' ++ [b]).Perm left) (hb : ∀ x, x ∈ left → le b x) : Taken all (out ++ [b]) left' := by
  refine ⟨?_, ?_, fun a ha c hc => ?_⟩
  · refine List.Perm.trans ?_ h.perm
    rw [List.append_assoc]
    exact List.Perm.append_left out (List.perm_append_comm.trans hp)
  · rw [List.pairwise_append]
    refine ⟨h.row, by simp, fun a ha c hc => ?_⟩
    rw [List.mem_singleton] at hc
    subst hc
    exact h.ahead a ha c (hp.mem_iff.1 (by simp))
  · have hcl : c ∈ left := hp.mem_iff.1 (List.mem_append_left _ hc)
    rcases List.mem_append.1 ha with h1 | h1
    · exact h.ahead a h1 c hcl
    · rw [List.mem_singleton] at h1
      subst h1
      exact hb c hcl
theorem Taken.congr {all out left left' : List Th} (h : Taken all out left) (hp : left'.Perm left) : Taken all out left' :=
  ⟨(List.Perm.append_left out hp).trans h.perm, h.row, fun a ha b hb => h.ahead a ha b (hp.mem_iff.1 hb)⟩
theorem Taken.len {all out left : List Th} (h : Taken all out left) : out.length + left.length = all.length := by
  have := h.perm.length_eq
  rwa [List.length_append] at this
/-- the first greatest of the first q -/
structure Best (L : List Th) (q b : Nat) (x : Th) : Prop where
  at' : L[b]? = some x
  le' : b ≤ q
  most : ∀ (i : Nat) (y : Th), i < q → L[i]? = some y → y.prio ≤ x.prio ∧ (i < b → y.prio < x.prio)
theorem Best.start {L : List Th} {x : Th} (h : L[0]? = some x) : Best L 0 0 x := ⟨h, Nat.le_refl _, fun i y hi => absurd hi (by omega)⟩
theorem Best.next {L : List Th} {q b : Nat} {x y : Th} (h : Best L q b x) (hy : L[q]? = some y) (hg : x.prio < y.prio) : Best L (q + 1) q y :=
  ⟨hy, by omega, fun i z hi hz => by
    by_cases e : i = q
    · subst e
      rw [hy] at hz
      cases hz
      exact ⟨Int.le_refl _, fun h => by omega⟩
    · have := h.most i z (by omega) hz
      omega⟩
theorem Best.keep {L : List Th} {q b : Nat} {x y : Th} (h : Best L q b x) (hy : L[q]? = some y) (hg : ¬ x.prio < y.prio) : Best L (q + 1) b x :=
  ⟨h.at', by have := h.le'; omega, fun i z hi hz => by
    by_cases e : i = q
    · subst e
      rw [hy] at hz
      cases hz
      have := h.le'
      exact ⟨by omega, fun h => by omega⟩
    · exact h.most i z (by omega) hz⟩
theorem Best.first {L : List Th} {b : Nat} {x : Th} (h : Best L L.length b x) (hs : (L.map Th.born).Pairwise (· < ·)) : ∀ y, y ∈ L → le x y := fun y hy => by
  obtain ⟨i, hi, rfl⟩ := List.getElem_of_mem hy
  have hm := h.most i L[i] hi (List.getElem?_eq_getElem hi)
  obtain ⟨hb, rfl⟩ := List.getElem?_eq_some_iff.1 h.at'
  unfold le
  rw [ahd_not]
  by_cases e : i < b
  · exact .inl (hm.2 e)
  · by_cases e2 : i = b
    · subst e2
      exact .inr ⟨rfl, Int.le_refl _⟩
    · have := List.pairwise_iff_getElem.1 hs b i (by simpa using hb) (by simpa using hi) (by omega)
      simp only [List.getElem_map] at this
      omega
theorem erase_perm {L : List Th} {b : Nat} {x : Th} (h : L[b]? = some x) : ((L.take b ++ L.drop (b + 1)) ++ [x]).Perm L := by
  obtain ⟨hb, rfl⟩ := List.getElem?_eq_some_iff.1 h
  refine List.Perm.trans (List.perm_append_singleton _ _) ?_
  refine List.Perm.trans (List.perm_middle.symm) ?_
  rw [← List.drop_eq_getElem_cons hb, List.take_append_drop]
theorem erase_sorted {L : List Th} (b : Nat) (hs : (L.map Th.born).Pairwise (· < ·)) : ((L.take b ++ L.drop (b + 1)).map Th.born).Pairwise (· < ·) := by
  refine List.Pairwise.sublist (List.Sublist.map _ ?_) hs
  have h1 : (L.drop (b + 1)).Sublist (L.drop b) := by
    have := List.drop_sublist 1 (L.drop b)
    rwa [List.drop_drop] at this
  have := List.Sublist.append (List.Sublist.refl (L.take b)) h1
  rwa [List.take_append_drop] at this
end Go.Proofs.Ytfjoakhcgpckgaa.Hp
