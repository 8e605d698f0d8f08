/- Opening arguments: a row of numbers; a row of rows of numbers. -/
import Derived.Test.YtjmpfkolpgbebaaOpen
import Derived.Test.YtjmpfkolpgbebaaAssignW
import Derived.Deep.Matrix
import Derived.Deep.MidRow
namespace Go.Proofs.Ytjmpfkolpgbebaa
open Go.ChangeShapes Go.WideShapes Go.ChangeAt Go.RowKit Go.Joins Go.Deep
set_option linter.unusedVariables false
section
variable {H : Type} {enc : TypeId × Value → H} {P : Program} {W : World} {base : Nat}
theorem rows64c {t I : TypeId} {v : Value} {d : DataW H} {p : List MemPlace} (hu : P.underlying t = some (.slice I)) (hI : P.underlying I = some (.int .i64)) (hcI : P.cellsOf I = 1)
    (o : Value.okWide P W .any base t v) (h : DataW.Trod enc P W 0 (fun _ => true) true t v d p) :
    ∃ (a : Option Addr) (n cap : Nat) (R : List Int), v = .slice a n cap ∧ n = R.length ∧ n ≤ 9223372036854775807 ∧ n ≤ cap ∧ cap ≤ 9223372036854775807 ∧ Vals W a (ints64 R) := by
  obtain ⟨ad, len, cap, rfl⟩ := okWide_slice hu o
  obtain ⟨fuel, hf⟩ := h
  rcases open_ints hu hI hcI hf with ⟨e, _⟩ | ⟨ad', len', cap', zs, e, _, hlc, hm, hzl, hx, hat, _⟩
  · simp [Value.cells] at e
    obtain ⟨rfl, rfl, rfl⟩ := e
    exact ⟨none, 0, 0, [], rfl, rfl, by omega, by omega, by omega, fun h => absurd h (by simp [ints64])⟩
  · simp [Value.cells] at e
    obtain ⟨rfl, rfl, rfl⟩ := e
    simp only [if_true] at hzl
    refine ⟨some ad', len, _, zs.take len, rfl, by simp; omega, by unfold maxLen at hm; omega, hlc, by unfold maxLen at hm; omega, fun hL => ?_⟩
    have hpos : 0 < len := by simp [ints64] at hL; omega
    have hspot : ad'.spot = none := by
      have := World.cell?_spot (hat 0 (by omega))
      simpa [Addr.add] using this
    obtain ⟨b0, off, spot⟩ := ad'
    simp only at hspot
    subst hspot
    refine ⟨b0, off, rfl, ?_, fun i v hg => ?_⟩
    · have := hat 0 (by omega)
      rw [Addr.add_mid] at this
      exact block_lt_of_cell this
    · have hil : i < len := by
        have := (List.getElem?_eq_some_iff.1 hg).1
        simp [ints64] at this; omega
      have h0 := hat i (by omega)
      rw [Addr.add_mid] at h0
      rw [ints64, List.getElem?_map, List.getElem?_take, if_pos hil] at hg
      rw [h0]
      cases hz : zs[i]? with
      | none => rw [hz] at hg; simp at hg
      | some z =>
        rw [hz] at hg
        simp at hg
        simp [List.getD, hz, hg]
theorem rowsTbl {t E I : TypeId} {v : Value} {d : DataW H} {p : List MemPlace} (hu : P.underlying t = some (.slice E)) (hE : P.underlying E = some (.slice I)) (hI : P.underlying I = some (.int .i64)) (hcE : P.cellsOf E = 1) (hcI : P.cellsOf I = 1)
    (o : Value.okWide P W .any base t v) (h : DataW.Trod enc P W 0 (fun _ => true) true t v d p) :
    ∃ (a : Option Addr) (n cap : Nat) (R : List (List Int)), v = .slice a n cap ∧ n = R.length ∧ n ≤ 9223372036854775807 ∧ n ≤ cap ∧ cap ≤ 9223372036854775807 ∧ Tbl W a R := by
  obtain ⟨ad, len, cap, rfl⟩ := okWide_slice hu o
  obtain ⟨fuel, hf⟩ := h
  have hml : maxLen = 9223372036854775807 := rfl
  rcases open_int_rows hu hE hI hcE hcI hf with ⟨e, _⟩ | ⟨ad', len', cap', A, L, C, Z, e, _, hlc, hm, hx, hr⟩
  · simp [Value.cells] at e
    obtain ⟨rfl, rfl, rfl⟩ := e
    exact ⟨none, 0, 0, [], rfl, rfl, by omega, by omega, by omega, fun h => absurd h (by simp)⟩
  · simp [Value.cells] at e
    obtain ⟨rfl, rfl, rfl⟩ := e
    refine ⟨some ad', len, _, (List.range len).map fun r => (Z r).take (L r), rfl, by simp, by omega, hlc, by omega, fun hL => ?_⟩
    have hpos : 0 < len := by simpa using hL
    have hspot : ad'.spot = none := by
      have := World.cell?_spot (hr 0 (by omega)).1
      simpa [Addr.add] using this
    obtain ⟨b0, off, spot⟩ := ad'
    simp only at hspot
    subst hspot
    refine ⟨b0, off, rfl, ?_, fun i r hi => ?_⟩
    · have := (hr 0 (by omega)).1
      rw [Addr.add_mid] at this
      exact block_lt_of_cell this
    · have hil : i < len := by
        have := (List.getElem?_eq_some_iff.1 hi).1
        simpa using this
      have er : r = (Z i).take (L i) := by
        rw [List.getElem?_map, List.getElem?_range hil] at hi
        simpa using hi.symm
      obtain ⟨g1, g2, g3, g4, g5, g6, g7⟩ := hr i (by omega)
      rw [Addr.add_mid] at g1
      have hrl : r.length = L i := by rw [er, List.length_take]; omega
      refine ⟨A i, C i, by rw [hrl]; exact g1, by omega, by omega, fun hl => ?_⟩
      have hli : 0 < L i := by rw [← hrl]; simpa [ints64] using hl
      cases hA : A i with
      | none => have := g6 hA; omega
      | some a' =>
        obtain ⟨_, hc⟩ := g7 a' hA
        have hsp : a'.spot = none := by
          have := World.cell?_spot (hc 0 (by omega))
          simpa [Addr.add] using this
        obtain ⟨b1, o1, spot⟩ := a'
        simp only at hsp
        subst hsp
        refine ⟨b1, o1, rfl, ?_, fun j u hj => ?_⟩
        · have := hc 0 (by omega)
          rw [Addr.add_mid] at this
          exact block_lt_of_cell this
        · have hjl : j < L i := by
            have := (List.getElem?_eq_some_iff.1 hj).1
            rw [← hrl]
            simpa [ints64] using this
          have h0 := hc j (by omega)
          rw [Addr.add_mid] at h0
          rw [h0, ← hj, ints64, List.getElem?_map, er, List.getElem?_take, if_pos hjl]
          have hjz : j < (Z i).length := by omega
          simp [hjz, List.getD_eq_getElem?_getD]
end
end Go.Proofs.Ytjmpfkolpgbebaa
