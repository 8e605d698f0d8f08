/- Opening arguments: a text; a row of labels. -/
import Derived.Test.YtooocllampkibaaDoorOpen
import Derived.Test.YtooocllampkibaaDoorTmplFilM
import Derived.Deep.MidRow
import Derived.ChangeMaps5
namespace Go.Proofs.YtooocllampkibaaDoor
open Go.ChangeShapes Go.WideShapes Go.ChangeAt Go.RowKit Go.Joins Go.Deep
set_option linter.unusedVariables false
open Tp
section
variable {H : Type} {enc : TypeId × Value → H} {P : Program} {W : World} {base : Nat}
theorem rowsLab {t E S : TypeId} {fs : Array Field} {v : Value} {d : DataW H} {p : List MemPlace} (hu : P.underlying t = some (.slice E)) (hE : P.underlying E = some (.struct fs)) (hS : P.underlying S = some .string) (hc : P.cellsOf E = 2) (hcS : P.cellsOf S = 1)
    (f0 : (fs[0]?).map (fun f => (f.type, f.offset)) = some (S, 0)) (f1 : (fs[1]?).map (fun f => (f.type, f.offset)) = some (S, 1))
    (o : Value.okWide P W .any base t v) (h : DataW.Trod enc P W 0 (fun _ => true) true t v d p) (li : Light P t d) :
    ∃ (a : Option Addr) (n cap : Nat) (L : List Lab), v = .slice a n cap ∧ n = L.length ∧ n ≤ cap ∧ n ≤ 9223372036854775807 ∧ Labs W a L ∧ LabSizes L := by
  obtain ⟨ad, len, cap, rfl⟩ := okWide_slice hu o
  obtain ⟨fuel, hf⟩ := h
  rcases open_slice hu hf with ⟨e, _⟩ | ⟨ad', len', cap', m, n, D, Pl, e, _, hlc, hm, hmm, hx, hi⟩
  · simp [Value.cells] at e
    obtain ⟨rfl, rfl, rfl⟩ := e
    exact ⟨none, 0, 0, [], rfl, rfl, Nat.le_refl _, by omega, fun h => absurd h (by simp), fun x hx => by cases hx⟩
  · simp [Value.cells] at e
    obtain ⟨rfl, rfl, rfl⟩ := e
    simp only [if_true] at hmm
    subst hmm
    obtain rfl : d = _ := (Prod.mk.inj hx).1
    obtain ⟨_, hle, _⟩ := light_slice hu li
    have hrb : reachBytes = 140737488351232 := rfl
    have hch : ∀ k, k < len → ∃ t : Lab, (∀ j v, [Value.string (bts t.1), Value.string (bts t.2)][j]? = some v → W.cell? ((ad'.add (k * 2)).add j) = some v) ∧ t.1.length ≤ 140737488351232 ∧ t.2.length ≤ 140737488351232 := by
      intro k hk
      have hlk := hle (D k) (List.mem_map.2 ⟨k, List.mem_range.2 hk, rfl⟩)
      obtain ⟨cs', hc', ht⟩ := hi k (by omega)
      obtain ⟨_, hl, hat⟩ := World.cells?_some hc'
      rw [hc] at hl hat
      match cs', hl with
      | [c0, c1], _ =>
        obtain ⟨ps0, _, y0, e0, k0, g0⟩ := field hE ht 0 S 0 1 f0 hcS
        obtain ⟨ps1, _, y1, e1, k1, g1⟩ := field hE ht 1 S 1 1 f1 hcS
        obtain ⟨s0, hs0, rfl, _⟩ := DataW.trod_string hS g0
        obtain ⟨s1, hs1, rfl, _⟩ := DataW.trod_string hS g1
        have z0 : c0 = .string s0 := by simpa using hs0
        have z1 : c1 = .string s1 := by simpa using hs1
        subst z0 z1
        simp only at e0 e1
        have b0 := light_string (light_field hE (e0 ▸ hlk) f0 k0)
        have b1 := light_string (light_field hE (e1 ▸ hlk) f1 k1)
        refine ⟨(lst s0, lst s1), fun j v hv => ?_, by rw [← hrb]; exact b0, by rw [← hrb]; exact b1⟩
        have hj : j < 2 := (List.getElem?_eq_some_iff.1 hv).1
        have := hat j hj
        rw [bts_lst, bts_lst] at hv
        rw [hv] at this
        exact this
    obtain ⟨F, hF⟩ := choose_lt hch
    refine ⟨some ad', len, _, (List.range len).map F, rfl, by simp, hlc, by unfold maxLen at hm; omega, fun hL => ?_, fun x hx => ?_⟩
    · have hpos : 0 < len := by simpa using hL
      have hspot : ad'.spot = none := by
        have := World.cell?_spot ((hF 0 hpos).1 0 _ rfl)
        simpa [Addr.add] using this
      obtain ⟨b0, off, spot⟩ := ad'
      simp only at hspot
      subst hspot
      refine ⟨b0, off, rfl, ?_, fun i c' hg => ?_⟩
      · have := (hF 0 hpos).1 0 _ rfl
        rw [Addr.add_mid, Addr.add_mid] at this
        exact block_lt_of_cell this
      · have hil : i < len := by
          have := (List.getElem?_eq_some_iff.1 hg).1
          simpa using this
        have e : F i = c' := by
          rw [List.getElem?_map, List.getElem?_range hil] at hg
          simpa using hg
        have h0 := (hF i hil).1 0 _ rfl
        have h1 := (hF i hil).1 1 _ rfl
        rw [e, Addr.add_mid, Addr.add_mid] at h0 h1
        exact ⟨h0, h1⟩
    · obtain ⟨i, hi, rfl⟩ := List.mem_map.1 hx
      exact (hF i (List.mem_range.1 hi)).2
end
end Go.Proofs.YtooocllampkibaaDoor
