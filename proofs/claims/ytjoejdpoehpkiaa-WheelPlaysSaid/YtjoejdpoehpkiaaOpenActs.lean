/- Opening arguments: a row of acts. -/
import Derived.Test.YtjoejdpoehpkiaaOpen
import Derived.Test.YtjoejdpoehpkiaaActs
import Derived.Deep.MidRow
namespace Go.Proofs.Ytjoejdpoehpkiaa
open Go.ChangeShapes Go.WideShapes Go.ChangeAt Go.RowKit Go.Joins Go.Deep
set_option linter.unusedVariables false
section
variable {H : Type} {enc : TypeId × Value → H} {P : Program} {W : World} {base : Nat}
instance : Inhabited Ac := ⟨⟨0, 0, 0, 0⟩⟩
theorem acts_get {ls : List Ac} {i : Nat} {v : Value} (h : (acts ls)[i]? = some v) : ∃ t, ls[i / 4]? = some t ∧ v = if i % 4 = 0 then .int .i64 t.kind else if i % 4 = 1 then .int .i64 t.id else if i % 4 = 2 then .int .i64 t.prio else .int .i64 t.at' := by
  have hl := (List.getElem?_eq_some_iff.1 h).1
  rw [acts_length] at hl
  have hk : i / 4 < ls.length := by omega
  refine ⟨ls[i / 4], List.getElem?_eq_getElem hk, ?_⟩
  obtain ⟨h1, h2, h3, h4⟩ := acts_at (List.getElem?_eq_getElem hk)
  have hm : i % 4 = 0 ∨ i % 4 = 1 ∨ i % 4 = 2 ∨ i % 4 = 3 := by omega
  rcases hm with e | e | e | e
  · rw [if_pos e]
    rw [show i / 4 * 4 = i from by omega, h] at h1
    exact Option.some.inj h1
  · rw [if_neg (by omega), if_pos e]
    rw [show i / 4 * 4 + 1 = i from by omega, h] at h2
    exact Option.some.inj h2
  · rw [if_neg (by omega), if_neg (by omega), if_pos e]
    rw [show i / 4 * 4 + 2 = i from by omega, h] at h3
    exact Option.some.inj h3
  · rw [if_neg (by omega), if_neg (by omega), if_neg (by omega)]
    rw [show i / 4 * 4 + 3 = i from by omega, h] at h4
    exact Option.some.inj h4
theorem openActs {t E I J : TypeId} {fs : Array Field} {v : Value} {d : DataW H} {p : List MemPlace} (hu : P.underlying t = some (.slice E)) (hE : P.underlying E = some (.struct fs)) (hI : P.underlying I = some (.int .i64)) (hJ : P.underlying J = some (.int .i64)) (hc : P.cellsOf E = 4) (hcI : P.cellsOf I = 1) (hcJ : P.cellsOf J = 1)
    (f0 : (fs[0]?).map (fun f => (f.type, f.offset)) = some (I, 0)) (f1 : (fs[1]?).map (fun f => (f.type, f.offset)) = some (I, 1)) (f2 : (fs[2]?).map (fun f => (f.type, f.offset)) = some (I, 2)) (f3 : (fs[3]?).map (fun f => (f.type, f.offset)) = some (J, 3))
    (o : Value.okWide P W .any base t v) (h : DataW.Trod enc P W 0 (fun _ => true) true t v d p) :
    ∃ (a : Option Addr) (n cap : Nat) (ls : List Ac), v = .slice a n cap ∧ n = ls.length ∧ n ≤ 9223372036854775807 ∧ Vals W a (acts ls) ∧ ∀ t, t ∈ ls → (Lit.int .i64 t.id).wf = true ∧ (Lit.int .i64 t.prio).wf = true ∧ (Lit.int .i64 t.at').wf = true := by
  obtain ⟨ad, len, cap, rfl⟩ := okWide_slice hu o
  obtain ⟨fuel, hf⟩ := h
  rcases open_slice hu hf with ⟨e, _⟩ | ⟨ad', len', cap', m, n, D, Pl, e, _, hlc, hm, hmm, hx, hi⟩
  · simp [Value.cells] at e
    obtain ⟨rfl, rfl, rfl⟩ := e
    exact ⟨none, 0, 0, [], rfl, rfl, by omega, Vals.nil _ _, fun t ht => (by simp at ht)⟩
  · simp [Value.cells] at e
    obtain ⟨rfl, rfl, rfl⟩ := e
    simp only [if_true] at hmm
    subst hmm
    have hch : ∀ k, k < len → ∃ t : Ac, (∀ j v, [Value.int .i64 t.kind, Value.int .i64 t.id, Value.int .i64 t.prio, Value.int .i64 t.at'][j]? = some v → W.cell? ((ad'.add (k * 4)).add j) = some v) ∧ (Lit.int .i64 t.id).wf = true ∧ (Lit.int .i64 t.prio).wf = true ∧ (Lit.int .i64 t.at').wf = true := by
      intro k hk
      obtain ⟨cs', hc', ht⟩ := hi k (by omega)
      obtain ⟨_, hl, hat⟩ := World.cells?_some hc'
      rw [hc] at hl hat
      match cs', hl with
      | [c0, c1, c2, c3], _ =>
        obtain ⟨_, _, _, _, _, g0⟩ := field hE ht 0 I 0 1 f0 hcI
        obtain ⟨_, _, _, _, _, g1⟩ := field hE ht 1 I 1 1 f1 hcI
        obtain ⟨_, _, _, _, _, g2⟩ := field hE ht 2 I 2 1 f2 hcI
        obtain ⟨_, _, _, _, _, g3⟩ := field hE ht 3 J 3 1 f3 hcJ
        obtain ⟨a, rfl, _⟩ := cell_int hI g0
        obtain ⟨b, rfl, hwf⟩ := cell_int hI g1
        obtain ⟨c, rfl, hwf2⟩ := cell_int hI g2
        obtain ⟨e, rfl, hwf3⟩ := cell_int hJ g3
        refine ⟨⟨a, b, c, e⟩, fun j v hv => ?_, hwf, hwf2, hwf3⟩
        have hj : j < 4 := (List.getElem?_eq_some_iff.1 hv).1
        have := hat j hj
        rw [hv] at this
        exact this
    obtain ⟨F, hF⟩ := choose_lt hch
    obtain ⟨ls, hls⟩ : ∃ ls : List Ac, ls = (List.range len).map F := ⟨_, rfl⟩
    have hll : ls.length = len := by rw [hls]; simp
    have hat : ∀ i t, ls[i]? = some t → i < len ∧ t = F i := fun i t hi => by
      have hil : i < len := by rw [← hll]; exact (List.getElem?_eq_some_iff.1 hi).1
      rw [hls, List.getElem?_map, List.getElem?_range hil] at hi
      exact ⟨hil, (by simpa using hi.symm)⟩
    refine ⟨some ad', len, _, ls, rfl, hll.symm, by unfold maxLen at hm; omega, fun hL => ?_, fun t ht => ?_⟩
    · rw [acts_length, hll] at hL
      have hpos : 0 < len := by omega
      have hsp : ad'.spot = none := by
        have := World.cell?_spot ((hF 0 hpos).1 0 _ rfl)
        simpa [Addr.add] using this
      obtain ⟨b0, off, spot⟩ := ad'
      simp only at hsp
      subst hsp
      refine ⟨b0, off, rfl, ?_, fun i v hg => ?_⟩
      · have := (hF 0 hpos).1 0 _ rfl
        rw [Addr.add_mid, Addr.add_mid] at this
        exact block_lt_of_cell this
      · obtain ⟨t, ht, hv⟩ := acts_get hg
        obtain ⟨hil, rfl⟩ := hat _ _ ht
        have h0 := (hF _ hil).1 0 _ rfl
        have h1 := (hF _ hil).1 1 _ rfl
        have h2 := (hF _ hil).1 2 _ rfl
        have h3 := (hF _ hil).1 3 _ rfl
        rw [Addr.add_mid, Addr.add_mid] at h0 h1 h2 h3
        rw [hv]
        have hm4 : i % 4 = 0 ∨ i % 4 = 1 ∨ i % 4 = 2 ∨ i % 4 = 3 := by omega
        rcases hm4 with e | e | e | e
        · rw [if_pos e, show off + i = off + i / 4 * 4 + 0 from by omega]; exact h0
        · rw [if_neg (by omega), if_pos e, show off + i = off + i / 4 * 4 + 1 from by omega]; exact h1
        · rw [if_neg (by omega), if_neg (by omega), if_pos e, show off + i = off + i / 4 * 4 + 2 from by omega]; exact h2
        · rw [if_neg (by omega), if_neg (by omega), if_neg (by omega), show off + i = off + i / 4 * 4 + 3 from by omega]; exact h3
    · obtain ⟨i, hi, rfl⟩ := List.getElem_of_mem ht
      obtain ⟨hil, e⟩ := hat i _ (List.getElem?_eq_getElem hi)
      rw [e]
      exact (hF i hil).2
end
end Go.Proofs.Ytjoejdpoehpkiaa
