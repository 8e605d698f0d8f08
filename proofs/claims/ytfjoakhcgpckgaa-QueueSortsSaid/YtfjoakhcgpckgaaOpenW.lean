/- Opening arguments: a row of items. -/
import Derived.Test.YtfjoakhcgpckgaaOpen
import Derived.Test.YtfjoakhcgpckgaaQueueSort
import Derived.Deep.MidRow
namespace Go.Proofs.Ytfjoakhcgpckgaa
open Go.ChangeShapes Go.WideShapes Go.ChangeAt Go.RowKit Go.Joins Go.Deep
set_option linter.unusedVariables false
open Hp
section
variable {H : Type} {enc : TypeId × Value → H} {P : Program} {W : World} {base : Nat}
theorem items_get {ls : List Th} {i : Nat} {v : Value} (h : (items ls)[i]? = some v) : ∃ t, ls[i / 2]? = some t ∧ v = if i % 2 = 0 then .int .i64 t.prio else .int .i64 t.id := by
  have hl := (List.getElem?_eq_some_iff.1 h).1
  rw [items_length] at hl
  have hk : i / 2 < ls.length := by omega
  refine ⟨ls[i / 2], List.getElem?_eq_getElem hk, ?_⟩
  obtain ⟨h1, h2⟩ := items_at (List.getElem?_eq_getElem hk)
  by_cases e : i % 2 = 0
  · rw [if_pos e]
    rw [show i / 2 * 2 = i from by omega, h] at h1
    exact Option.some.inj h1
  · rw [if_neg e]
    rw [show i / 2 * 2 + 1 = i from by omega, h] at h2
    exact Option.some.inj h2
theorem openW {t E I : TypeId} {fs : Array Field} {v : Value} {d : DataW H} {p : List MemPlace} (hu : P.underlying t = some (.slice E)) (hE : P.underlying E = some (.struct fs)) (hI : P.underlying I = some (.int .i64)) (hc : P.cellsOf E = 2) (hcI : P.cellsOf I = 1)
    (f0 : (fs[0]?).map (fun f => (f.type, f.offset)) = some (I, 0)) (f1 : (fs[1]?).map (fun f => (f.type, f.offset)) = some (I, 1))
    (o : Value.okWide P W .any base t v) (h : DataW.Trod enc P W 0 (fun _ => true) true t v d p) :
    ∃ (a : Option Addr) (n cap : Nat) (ls : List Th), v = .slice a n cap ∧ n = ls.length ∧ n ≤ 9223372036854775807 ∧ Vals W a (items ls) ∧ Row1 ls ∧ ∀ t, t ∈ ls → (Lit.int .i64 t.id).wf = true := by
  obtain ⟨ad, len, cap, rfl⟩ := okWide_slice hu o
  obtain ⟨fuel, hf⟩ := h
  rcases open_slice hu hf with ⟨e, _⟩ | ⟨ad', len', cap', m, n, D, Pl, e, _, hlc, hm, hmm, hx, hi⟩
  · simp [Value.cells] at e
    obtain ⟨rfl, rfl, rfl⟩ := e
    exact ⟨none, 0, 0, [], rfl, rfl, by omega, Vals.nil _ _, fun i t hi => (by simp at hi), fun t ht => (by simp at ht)⟩
  · simp [Value.cells] at e
    obtain ⟨rfl, rfl, rfl⟩ := e
    simp only [if_true] at hmm
    subst hmm
    have hch : ∀ k, k < len → ∃ t : Int × Int, (∀ j v, [Value.int .i64 t.1, Value.int .i64 t.2][j]? = some v → W.cell? ((ad'.add (k * 2)).add j) = some v) ∧ (Lit.int .i64 t.2).wf = true := by
      intro k hk
      obtain ⟨cs', hc', ht⟩ := hi k (by omega)
      obtain ⟨_, hl, hat⟩ := World.cells?_some hc'
      rw [hc] at hl hat
      match cs', hl with
      | [c0, c1], _ =>
        obtain ⟨_, _, _, _, _, g0⟩ := field hE ht 0 I 0 1 f0 hcI
        obtain ⟨_, _, _, _, _, g1⟩ := field hE ht 1 I 1 1 f1 hcI
        obtain ⟨a, rfl, _⟩ := cell_int hI g0
        obtain ⟨b, rfl, hwf⟩ := cell_int hI g1
        refine ⟨(a, b), fun j v hv => ?_, hwf⟩
        have hj : j < 2 := (List.getElem?_eq_some_iff.1 hv).1
        have := hat j hj
        rw [hv] at this
        exact this
    obtain ⟨F, hF⟩ := choose_lt hch
    obtain ⟨ls, hls⟩ : ∃ ls : List Th, ls = (List.range len).map fun k => ⟨(F k).1, (F k).2, (k : Int) + 1, 0⟩ := ⟨_, rfl⟩
    have hll : ls.length = len := by rw [hls]; simp
    have hat : ∀ i t, ls[i]? = some t → i < len ∧ t = ⟨(F i).1, (F i).2, (i : Int) + 1, 0⟩ := fun i t hi => by
      have hil : i < len := by rw [← hll]; exact (List.getElem?_eq_some_iff.1 hi).1
      rw [hls, List.getElem?_map, List.getElem?_range hil] at hi
      exact ⟨hil, (by simpa using hi.symm)⟩
    refine ⟨some ad', len, _, ls, rfl, hll.symm, by unfold maxLen at hm; omega, fun hL => ?_, fun i t hi => ?_, fun t ht => ?_⟩
    · rw [items_length, hll] at hL
      have hpos : 0 < len := by omega
      have hsp : ad'.spot = none := by
        have := World.cell?_spot ((hF 0 hpos).1 0 _ rfl)
        simpa [Addr.add] using this
      obtain ⟨b0, off, spot⟩ := ad'
      simp only at hsp
      subst hsp
      refine ⟨b0, off, rfl, ?_, fun i v hg => ?_⟩
      · have := (hF 0 hpos).1 0 _ rfl
        rw [Addr.add_mid, Addr.add_mid] at this
        exact block_lt_of_cell this
      · obtain ⟨t, ht, hv⟩ := items_get hg
        obtain ⟨hil, rfl⟩ := hat _ _ ht
        have h0 := (hF _ hil).1 0 _ rfl
        have h1 := (hF _ hil).1 1 _ rfl
        rw [Addr.add_mid, Addr.add_mid] at h0 h1
        rw [hv]
        by_cases e : i % 2 = 0
        · rw [if_pos e, show off + i = off + i / 2 * 2 + 0 from by omega]; exact h0
        · rw [if_neg e, show off + i = off + i / 2 * 2 + 1 from by omega]; exact h1
    · obtain ⟨_, rfl⟩ := hat i t hi
      exact ⟨rfl, rfl⟩
    · obtain ⟨i, hi, rfl⟩ := List.getElem_of_mem ht
      obtain ⟨hil, e⟩ := hat i _ (List.getElem?_eq_getElem hi)
      rw [e]
      exact (hF i hil).2
end
end Go.Proofs.Ytfjoakhcgpckgaa
