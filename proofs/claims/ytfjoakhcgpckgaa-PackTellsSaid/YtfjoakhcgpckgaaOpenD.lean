/- Opening arguments: a row of numbers of 64 bits, with its room, and each in its bounds. -/
import Derived.Test.YtfjoakhcgpckgaaOpen
import Derived.Test.YtfjoakhcgpckgaaStable
import Derived.Deep.MidRow
namespace Go.Proofs.Ytfjoakhcgpckgaa
open Go.ChangeShapes Go.WideShapes Go.ChangeAt Go.RowKit Go.Joins Go.Deep
set_option linter.unusedVariables false
section
variable {H : Type} {enc : TypeId × Value → H} {P : Program} {W : World} {base : Nat}
theorem rows64w {t I : TypeId} {v : Value} {d : DataW H} {p : List MemPlace} (hu : P.underlying t = some (.slice I)) (hI : P.underlying I = some (.int .i64)) (hcI : P.cellsOf I = 1)
    (o : Value.okWide P W .any base t v) (h : DataW.Trod enc P W 0 (fun _ => true) true t v d p) :
    ∃ (a : Option Addr) (n cap : Nat) (R : List Int), v = .slice a n cap ∧ n = R.length ∧ n ≤ 9223372036854775807 ∧ n ≤ cap ∧ Vals W a (ints64 R) ∧ ∀ x, x ∈ R → (Lit.int .i64 x).wf = true := by
  obtain ⟨ad, len, cap, rfl⟩ := okWide_slice hu o
  obtain ⟨fuel, hf⟩ := h
  rcases open_ints hu hI hcI hf with ⟨e, _⟩ | ⟨ad', len', cap', zs, e, _, hlc, hm, hzl, hx, hat, hwf⟩
  · simp [Value.cells] at e
    obtain ⟨rfl, rfl, rfl⟩ := e
    exact ⟨none, 0, 0, [], rfl, rfl, by omega, by omega, fun h => absurd h (by simp [ints64]), fun x hx => by simp at hx⟩
  · simp [Value.cells] at e
    obtain ⟨rfl, rfl, rfl⟩ := e
    simp only [if_true] at hzl
    refine ⟨some ad', len, _, zs.take len, rfl, by simp; omega, by unfold maxLen at hm; omega, hlc, fun hL => ?_, fun x hx => hwf x (List.mem_of_mem_take hx)⟩
    have hpos : 0 < len := by simp [ints64] at hL; omega
    have hspot : ad'.spot = none := by
      have := World.cell?_spot (hat 0 (by omega))
      simpa [Addr.add] using this
    obtain ⟨b0, off, spot⟩ := ad'
    simp only at hspot
    subst hspot
    refine ⟨b0, off, rfl, ?_, fun i v hg => ?_⟩
    · have := hat 0 (by omega)
      rw [Addr.add_mid] at this
      exact block_lt_of_cell this
    · have hil : i < len := by
        have := (List.getElem?_eq_some_iff.1 hg).1
        simp [ints64] at this; omega
      have h0 := hat i (by omega)
      rw [Addr.add_mid] at h0
      rw [ints64, List.getElem?_map, List.getElem?_take, if_pos hil] at hg
      rw [h0]
      cases hz : zs[i]? with
      | none => rw [hz] at hg; simp at hg
      | some z =>
        rw [hz] at hg
        simp at hg
        simp [List.getD, hz, hg]
end
end Go.Proofs.Ytfjoakhcgpckgaa
