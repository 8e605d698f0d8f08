/- Opening arguments: a row of slots; one slot. -/
import Derived.Test.YtfjoakhcgpckgaaOpen
import Derived.Test.YtfjoakhcgpckgaaBookRow
import Derived.Deep.MidRow
namespace Go.Proofs.Ytfjoakhcgpckgaa
open Go.ChangeShapes Go.WideShapes Go.ChangeAt Go.RowKit Go.Joins Go.Deep
set_option linter.unusedVariables false
open Bk
section
variable {H : Type} {enc : TypeId × Value → H} {P : Program} {W : World} {base : Nat}
theorem rowsSl {t E I : TypeId} {fs : Array Field} {v : Value} {d : DataW H} {p : List MemPlace} (hu : P.underlying t = some (.slice E)) (hE : P.underlying E = some (.struct fs)) (hI : P.underlying I = some (.int .i64)) (hc : P.cellsOf E = 3) (hcI : P.cellsOf I = 1)
    (f0 : (fs[0]?).map (fun f => (f.type, f.offset)) = some (I, 0)) (f1 : (fs[1]?).map (fun f => (f.type, f.offset)) = some (I, 1)) (J : TypeId) (hJ : P.underlying J = some (.int .i64)) (hcJ : P.cellsOf J = 1) (f2 : (fs[2]?).map (fun f => (f.type, f.offset)) = some (J, 2))
    (o : Value.okWide P W .any base t v) (h : DataW.Trod enc P W 0 (fun _ => true) true t v d p) :
    ∃ (a : Option Addr) (n cap : Nat) (L : List Sl), v = .slice a n cap ∧ n = L.length ∧ n ≤ 9223372036854775807 ∧ Slots W a L := by
  obtain ⟨ad, len, cap, rfl⟩ := okWide_slice hu o
  obtain ⟨fuel, hf⟩ := h
  rcases open_slice hu hf with ⟨e, _⟩ | ⟨ad', len', cap', m, n, D, Pl, e, _, hlc, hm, hmm, hx, hi⟩
  · simp [Value.cells] at e
    obtain ⟨rfl, rfl, rfl⟩ := e
    exact ⟨none, 0, 0, [], rfl, rfl, by omega, fun h => absurd h (by simp)⟩
  · simp [Value.cells] at e
    obtain ⟨rfl, rfl, rfl⟩ := e
    simp only [if_true] at hmm
    subst hmm
    have hch : ∀ k, k < len → ∃ t : Sl, ∀ j v, [Value.int .i64 t.fr, Value.int .i64 t.to, Value.int .i64 t.n][j]? = some v → W.cell? ((ad'.add (k * 3)).add j) = some v := by
      intro k hk
      obtain ⟨cs', hc', ht⟩ := hi k (by omega)
      obtain ⟨_, hl, hat⟩ := World.cells?_some hc'
      rw [hc] at hl hat
      match cs', hl with
      | [c0, c1, c2], _ =>
        obtain ⟨_, _, _, _, _, g0⟩ := field hE ht 0 I 0 1 f0 hcI
        obtain ⟨_, _, _, _, _, g1⟩ := field hE ht 1 I 1 1 f1 hcI
        obtain ⟨_, _, _, _, _, g2⟩ := field hE ht 2 J 2 1 f2 hcJ
        obtain ⟨a, rfl, _⟩ := cell_int hI g0
        obtain ⟨b, rfl, _⟩ := cell_int hI g1
        obtain ⟨c, rfl, _⟩ := cell_int hJ g2
        refine ⟨⟨a, b, c⟩, fun j v hv => ?_⟩
        have hj : j < 3 := (List.getElem?_eq_some_iff.1 hv).1
        have := hat j hj
        rw [hv] at this
        exact this
    have : Inhabited Sl := ⟨⟨0, 0, 0⟩⟩
    obtain ⟨F, hF⟩ := choose_lt hch
    refine ⟨some ad', len, _, (List.range len).map F, rfl, by simp, by unfold maxLen at hm; omega, fun hL => ?_⟩
    have hpos : 0 < len := by simpa using hL
    have hspot : ad'.spot = none := by
      have := World.cell?_spot (hF 0 hpos 0 _ rfl)
      simpa [Addr.add] using this
    obtain ⟨b0, off, spot⟩ := ad'
    simp only at hspot
    subst hspot
    refine ⟨b0, off, rfl, ?_, fun i s hg => ?_⟩
    · have := hF 0 hpos 0 _ rfl
      rw [Addr.add_mid, Addr.add_mid] at this
      exact block_lt_of_cell this
    · have hil : i < len := by
        have := (List.getElem?_eq_some_iff.1 hg).1
        simpa using this
      have e : F i = s := by
        rw [List.getElem?_map, List.getElem?_range hil] at hg
        simpa using hg
      have h0 := hF i hil 0 _ rfl
      have h1 := hF i hil 1 _ rfl
      have h2 := hF i hil 2 _ rfl
      rw [e, Addr.add_mid, Addr.add_mid] at h0 h1 h2
      exact ⟨h0, h1, h2⟩
end
end Go.Proofs.Ytfjoakhcgpckgaa
