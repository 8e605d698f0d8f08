/- JournalPlays: the calls on the pair, in the form in which the law's walk meets them. -/
import Derived.Test.YtdbipmidjdhjpaaBytes
import Derived.Test.YtdbipmidjdhjpaaRowLaws
namespace Go.Proofs.Ytdbipmidjdhjpaa
open Go.ChangeShapes Go.WideShapes Go.ChangeAt Go.RowKit
set_option linter.unusedVariables false

theorem Pair.drew {W w : World} {L : List Int} {s : Nat} {L' : List Int} {s' : Nat} (h : Pair W w L s L' s') : Pair W w.drew L s L' s' := h.drewN 1
theorem Pair.below {W w : World} {L : List Int} {s : Nat} {L' : List Int} {s' : Nat} (h : Pair W w L s L' s') : Below W.heap.size W w := by
  obtain ⟨v, v', hd, hd', hne, hsz, hB⟩ := h; exact hB
theorem Pair.size {W w : World} {L : List Int} {s : Nat} {L' : List Int} {s' : Nat} (h : Pair W w L s L' s') : W.heap.size + 2 ≤ w.heap.size := by
  obtain ⟨v, v', hd, hd', hne, hsz, hB⟩ := h; exact hsz
theorem keeps_cell {w : World} {A : Nat} {cs : List Value} {u : Value} (hb : w.heap[A]? = some (.cells cs.toArray 44 (0, 0))) (j : Nat) (hu : cs[j]? = some u) : w.cell? ⟨A, j, none⟩ = some u := by
  rw [cell_of_row w A j cs.toArray 44 (0, 0) hb]; simpa using hu
theorem BytesIn.below {w w' : World} {p : Option Addr} {n : Nat} {xs : List Int} (h : Lib.BytesIn w p n xs) (hb : Below w.heap.size w w') : Lib.BytesIn w' p n xs := fun hn => by
  obtain ⟨b, o, rfl, hc⟩ := h.at hn
  exact ⟨b, o, rfl, fun i hi => (hb.cell (World.block_lt_of_cell? _ _ (hc i hi))).trans (hc i hi)⟩

theorem two_write {W w : World} {L L' : List Int} {s s' : Nat} {A : Nat} {cs : List Value} (a : Option Addr) (c : Nat) (xs : List Int) (hsrc : Src W 1 (.slice a xs.length c) xs.length (xs.map (.int .u8))) (hx : xs.length ≤ 140737488351232)
    (hA : W.heap.size + 2 ≤ A) (h : Pair W w L s L' s') (hb : w.heap[A]? = some (.cells cs.toArray 44 (0, 0))) :
    Calls Try.prog 11 #[.pointer (some ⟨W.heap.size, 0, none⟩), .slice a xs.length c] w fun e w' => e = .returned (.int .i64 (wcode L xs)) ∧ Pair W w' (wlist L xs) s L' s' ∧ w'.heap[A]? = some (.cells cs.toArray 44 (0, 0)) :=
  (pair_write h a c xs (hsrc.below h.below) hx).mono fun e w' ⟨h1, h2, h3⟩ => ⟨h1, h2, h3 A _ hA hb⟩
theorem two_writeR {W w : World} {L L' : List Int} {s s' : Nat} {A : Nat} {cs : List Value} (a : Option Addr) (c : Nat) (xs : List Int) (hsrc : Src W 1 (.slice a xs.length c) xs.length (xs.map (.int .u8))) (hx : xs.length ≤ 140737488351232)
    (hA : W.heap.size + 2 ≤ A) (h : Pair W w L s L' s') (hb : w.heap[A]? = some (.cells cs.toArray 44 (0, 0))) :
    Calls Try.prog 12 #[.pointer (some ⟨W.heap.size + 1, 0, none⟩), .slice a xs.length c] w fun e w' => e = .returned (.int .i64 (wcode L' xs)) ∧ Pair W w' L s (wlist L' xs) s' ∧ w'.heap[A]? = some (.cells cs.toArray 44 (0, 0)) :=
  (pair_writeR h a c xs (hsrc.below h.below) hx).mono fun e w' ⟨h1, h2, h3⟩ => ⟨h1, h2, h3 A _ hA hb⟩
theorem two_crash {W w : World} {L L' : List Int} {s s' : Nat} {A : Nat} {cs : List Value} (k : Int) (hA : W.heap.size + 2 ≤ A) (h : Pair W w L s L' s') (hb : w.heap[A]? = some (.cells cs.toArray 44 (0, 0))) :
    Calls Try.prog 14 #[.pointer (some ⟨W.heap.size, 0, none⟩), .int .i64 k] w fun e w' => e = .returned (.int .i64 (ccode L s k)) ∧ Pair W w' (clist L s k) (csafe L s k) L' s' ∧ w'.heap[A]? = some (.cells cs.toArray 44 (0, 0)) :=
  (pair_crash h k).mono fun e w' ⟨h1, h2, h3⟩ => ⟨h1, h2, h3 A _ hA hb⟩
theorem two_crashR {W w : World} {L L' : List Int} {s s' : Nat} {A : Nat} {cs : List Value} (k : Int) (hA : W.heap.size + 2 ≤ A) (h : Pair W w L s L' s') (hb : w.heap[A]? = some (.cells cs.toArray 44 (0, 0))) :
    Calls Try.prog 15 #[.pointer (some ⟨W.heap.size + 1, 0, none⟩), .int .i64 k] w fun e w' => e = .returned (.int .i64 (ccode L' s' k)) ∧ Pair W w' L s (clist L' s' k) (csafe L' s' k) ∧ w'.heap[A]? = some (.cells cs.toArray 44 (0, 0)) :=
  (pair_crashR h k).mono fun e w' ⟨h1, h2, h3⟩ => ⟨h1, h2, h3 A _ hA hb⟩
/-- the pair as the tail of a round meets it: both hold L; the document's slice, as its cell holds it -/
theorem two_bytes {W w : World} {L : List Int} {s : Nat} {a' : Option Addr} {c' : Nat} (h : Pair W w L s L s) (hc : w.cell? ⟨W.heap.size + 1, 0, none⟩ = some (.slice a' L.length c')) (hin : Lib.BytesIn w a' L.length L) :
    Calls Try.prog 17 #[.pointer (some ⟨W.heap.size, 0, none⟩)] w fun e w' => ∃ a c, e = .returned (.slice a L.length c) ∧ Lib.BytesIn w' a L.length L ∧ Pair W w' L s L s ∧ w'.cell? ⟨W.heap.size + 1, 0, none⟩ = some (.slice a' L.length c') ∧ Lib.BytesIn w' a' L.length L :=
  (pair_bytes h).mono fun e w' ⟨a, c, h1, h2, h3, h4, h5⟩ => ⟨a, c, h1, h2, h3, (h5.cell (p := ⟨W.heap.size + 1, 0, none⟩) (by have := h.size; simp; omega)).trans hc, BytesIn.below hin h5⟩
theorem two_equal {w : World} {L : List Int} (a a' : Option Addr) (c c' : Nat) (h1 : Lib.BytesIn w a L.length L) (h2 : Lib.BytesIn w a' L.length L) :
    Calls Try.prog 16 #[.slice a L.length c, .slice a' L.length c'] w fun e w' => e = .returned (.bool true) ∧ w = w' :=
  (Try.bytes_Equal_all a a' L.length c L.length c' L L w rfl rfl h1 h2).mono fun e w' ⟨h, h'⟩ => ⟨by rw [h]; simp, h'.symm⟩
theorem pair_refcells {W w : World} {L L' : List Int} {s s' : Nat} (h : Pair W w L s L' s') : ∃ a c, w.cell? ⟨W.heap.size + 1, 0, none⟩ = some (.slice a L'.length c) ∧ w.cell? ⟨W.heap.size + 1, 1, none⟩ = some (.int .i64 s') ∧ w.frozen? ⟨W.heap.size + 1, 1, none⟩ = false ∧ L'.length ≤ 100000 := by
  obtain ⟨v, v', hd, hd', hne, hsz, hB⟩ := h
  obtain ⟨c0, c1, f0, f1, hown, hl, hs⟩ := hd'
  obtain ⟨a, c, rfl, _⟩ := slice_shape hown
  exact ⟨a, c, c0, c1, f1, hl⟩
end Go.Proofs.Ytdbipmidjdhjpaa
