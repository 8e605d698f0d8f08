/- JournalPlays: the program's disk and the document's, side by side. -/
import Derived.Test.YtdbipmidjdhjpaaCrash
namespace Go.Proofs.Ytdbipmidjdhjpaa
open Go.ChangeShapes Go.WideShapes Go.ChangeAt Go.RowKit
set_option linter.unusedVariables false

/-- the program's disk is block W.heap.size, the document's the next one -/
def Pair (W w : World) (L : List Int) (s : Nat) (L' : List Int) (s' : Nat) : Prop :=
  ∃ v v', DiskAt w (W.heap.size + 2) W.heap.size v L s ∧ DiskAt w (W.heap.size + 2) (W.heap.size + 1) v' L' s' ∧ (v.ownBlock = none ∨ v.ownBlock ≠ v'.ownBlock) ∧ W.heap.size + 2 ≤ w.heap.size ∧ Below W.heap.size W w
/-- a block that holds a deed stays -/
def Keeps (W w w' : World) : Prop := ∀ A cs, W.heap.size + 2 ≤ A → w.heap[A]? = some (.cells cs 44 (0, 0)) → w'.heap[A]? = some (.cells cs 44 (0, 0))

theorem DiskAt.other {w w' : World} {base B B' : Nat} {row : Option Nat} {v : Value} {L : List Int} {s : Nat} (hd : DiskAt w base B v L s) (hf : Foot w w' B' row) (hB : B ≠ B') (hlt : B < w.heap.size) (hr : row ≠ some B) (hb' : B' < base)
    (hv : v.ownBlock = none ∨ v.ownBlock ≠ row) : DiskAt w' base B v L s := by
  obtain ⟨c0, c1, f0, f1, hown, hl, hs⟩ := hd
  have hb : w'.heap[B]? = w.heap[B]? := hf.block B hlt hB (fun e => hr e.symm)
  refine ⟨(World.cell?_of_block (a := ⟨B, 0, none⟩) hb).trans c0, (World.cell?_of_block (a := ⟨B, 1, none⟩) hb).trans c1, (World.frozen?_of_block (a := ⟨B, 0, none⟩) hb).trans f0, (World.frozen?_of_block (a := ⟨B, 1, none⟩) hb).trans f1, ?_, hl, hs⟩
  refine ⟨hown.1, ?_⟩
  rcases hown.2 with hn | ⟨g, cap, cur, rfl, hbg, hgg, rest⟩
  · exact .inl hn
  · refine .inr ⟨g, cap, cur, rfl, hbg, ?_, rest⟩
    rw [hf.block g (Array.getElem?_eq_some_iff.1 hgg).1 (by omega) (by simpa [Value.ownBlock] using hv)]
    exact hgg
theorem row_not44 {w : World} {base B : Nat} {v : Value} {L : List Int} {s : Nat} (hd : DiskAt w base B v L s) {A : Nat} {cs : Array Value} (hA : w.heap[A]? = some (.cells cs 44 (0, 0))) : v.ownBlock ≠ some A := by
  intro e
  obtain ⟨_, _, _, _, hown, _⟩ := hd
  rcases hown.2 with ⟨rfl, _⟩ | ⟨g, cap, cur, rfl, _, hgg, _⟩
  · simp [Value.ownBlock] at e
  · simp [Value.ownBlock] at e
    subst e
    rw [hA] at hgg
    simp at hgg
theorem below_foot {W w w' : World} {B : Nat} {row : Option Nat} (h : Below W.heap.size W w) (hf : Foot w w' B row) (hB : W.heap.size ≤ B) (hr : ∀ g, row = some g → W.heap.size ≤ g) : Below W.heap.size W w' :=
  h.trans ⟨hf.os, hf.tape, hf.output, hf.size, fun k hk => hf.block k (by have := h.size; omega) (by omega) (fun e => by have := hr k e.symm; omega)⟩

/-- the program's side turns -/
theorem Pair.left {W w w' : World} {L L1 : List Int} {s s1 : Nat} {L' : List Int} {s' : Nat} {code : Int} {e : Ending} (h : Pair W w L s L' s')
    (hw : ∀ v, DiskAt w (W.heap.size + 2) W.heap.size v L s → Wrote w (W.heap.size + 2) W.heap.size v.ownBlock L1 s1 code e w' ) : Pair W w' L1 s1 L' s' ∧ Keeps W w w' := by
  obtain ⟨v, v', hd, hd', hne, hsz, hB⟩ := h
  obtain ⟨_, v1, hd1, hf, hat⟩ := hw v hd
  have hlt := hd.2.2.2.2.1.lt
  have hlt' := hd'.2.2.2.2.1.lt
  have hr : v.ownBlock ≠ some (W.heap.size + 1) := fun e => by have := hlt _ e; omega
  have hv' : v'.ownBlock = none ∨ v'.ownBlock ≠ v.ownBlock := by
    rcases hne with h | h
    · cases hq : v'.ownBlock with
      | none => exact .inl rfl
      | some g => exact .inr (by rw [h]; simp)
    · exact .inr h.symm
  refine ⟨⟨v1, v', hd1, hd'.other hf (by omega) (by omega) hr (by omega) hv', ?_, by have := hf.size; omega, below_foot hB hf (Nat.le_refl _) (fun g hg => by have := hlt g hg; omega)⟩, ?_⟩
  · rcases hat with h | ⟨g, h, hg⟩
    · rw [h]; exact hne
    · refine .inr ?_
      rw [h]
      intro e
      have := hlt' g e.symm
      omega
  · intro A cs hA hcs
    rw [hf.block A (Array.getElem?_eq_some_iff.1 hcs).1 (by omega) (fun e => row_not44 hd hcs e.symm)]
    exact hcs
/-- the document's side turns -/
theorem Pair.right {W w w' : World} {L : List Int} {s : Nat} {L' L1 : List Int} {s' s1 : Nat} {code : Int} {e : Ending} (h : Pair W w L s L' s')
    (hw : ∀ v, DiskAt w (W.heap.size + 2) (W.heap.size + 1) v L' s' → ∃ row, (row = none ∨ row = v.ownBlock) ∧ Wrote w (W.heap.size + 2) (W.heap.size + 1) row L1 s1 code e w' ) : Pair W w' L s L1 s1 ∧ Keeps W w w' := by
  obtain ⟨v, v', hd, hd', hne, hsz, hB⟩ := h
  obtain ⟨row, hrow, _, v1, hd1, hf, hat⟩ := hw v' hd'
  have hlt := hd.2.2.2.2.1.lt
  have hlt' := hd'.2.2.2.2.1.lt
  have hr : row ≠ some W.heap.size := fun e => by
    rcases hrow with h | h
    · rw [h] at e; cases e
    · have := hlt' _ (h ▸ e); omega
  have hv : v.ownBlock = none ∨ v.ownBlock ≠ row := by
    rcases hrow with h | h
    · cases hq : v.ownBlock with
      | none => exact .inl rfl
      | some g => exact .inr (by rw [h]; simp)
    · rcases hne with h' | h'
      · exact .inl h'
      · exact .inr (by rw [h]; exact h')
  refine ⟨⟨v, v1, hd.other hf (by omega) (by omega) hr (by omega) hv, hd1, ?_, by have := hf.size; omega, below_foot hB hf (by omega) (fun g hg => by
    rcases hrow with h | h
    · rw [h] at hg; cases hg
    · have := hlt' g (h ▸ hg); omega)⟩, ?_⟩
  · rcases hat with h | ⟨g, h, hg⟩
    · rcases hrow with h' | h'
      · cases hq : v.ownBlock with
        | none => exact .inl rfl
        | some g => exact .inr (by rw [h, h']; simp)
      · rw [h, h']; exact hne
    · cases hq : v.ownBlock with
      | none => exact .inl rfl
      | some q =>
        refine .inr ?_
        rw [h]
        intro e
        have := hlt q hq
        injection e with e
        omega
  · intro A cs hA hcs
    rw [hf.block A (Array.getElem?_eq_some_iff.1 hcs).1 (by omega) (fun e => by
      rcases hrow with h | h
      · rw [h] at e; cases e
      · exact row_not44 hd' hcs (h ▸ e.symm))]
    exact hcs
end Go.Proofs.Ytdbipmidjdhjpaa
