/- Opening arguments: a row of hosts; a host with its texts' lengths. -/
import Derived.Test.YtnfmopmcckgfdaaAskOpen
import Derived.Test.YtnfmopmcckgfdaaHostM
namespace Go.Proofs.Ytnfmopmcckgfdaa
open Go.ChangeShapes Go.WideShapes Go.ChangeAt Go.RowKit Go.Joins Go.Deep
set_option linter.unusedVariables false
open Tp
instance : Inhabited Hst := ⟨⟨[], [], ⟨0, 0, 0⟩, ⟨0, 0, 0⟩⟩⟩
section
variable {H : Type} {enc : TypeId × Value → H} {P : Program} {W : World} {base : Nat}
theorem labs_cell2 {t E S : TypeId} {fs : Array Field} {v : Value} {fuel : Nat} {x : DataW H × List MemPlace} (hu : P.underlying t = some (.slice E)) (hE : P.underlying E = some (.struct fs)) (hS : P.underlying S = some .string) (hc : P.cellsOf E = 2) (hcS : P.cellsOf S = 1)
    (f0 : (fs[0]?).map (fun f => (f.type, f.offset)) = some (S, 0)) (f1 : (fs[1]?).map (fun f => (f.type, f.offset)) = some (S, 1))
    (hf : DataW.trod enc P W 0 (fun _ => true) true fuel t [v] = some x) :
    ∃ (a : Option Addr) (n cap : Nat) (L : List Lab), v = .slice a n cap ∧ n = L.length ∧ n ≤ cap ∧ n ≤ 9223372036854775807 ∧ Labs W a L ∧ ∀ x, x ∈ L → x.1.length ≤ 9223372036854775807 ∧ x.2.length ≤ 9223372036854775807 := by
  have hmx : maxLen = 9223372036854775807 := rfl
  rcases open_slice hu hf with ⟨e, _⟩ | ⟨ad', len', cap', m, n, D, Pl, e, _, hlc, hm, hmm, hx, hi⟩
  · have z : v = .slice none 0 0 := by simpa using e
    subst z
    exact ⟨none, 0, 0, [], rfl, rfl, Nat.le_refl _, by omega, fun h => absurd h (by simp), fun x hx => by cases hx⟩
  · have z : v = .slice (some ad') len' cap' := by simpa using e
    subst z
    simp only [if_true] at hmm
    subst hmm
    have hch : ∀ k, k < len' → ∃ t : Lab, (∀ j v, [Value.string (bts t.1), Value.string (bts t.2)][j]? = some v → W.cell? ((ad'.add (k * 2)).add j) = some v) ∧ t.1.length ≤ 9223372036854775807 ∧ t.2.length ≤ 9223372036854775807 := by
      intro k hk
      obtain ⟨cs', hc', ht⟩ := hi k (by omega)
      obtain ⟨_, hl, hat⟩ := World.cells?_some hc'
      rw [hc] at hl hat
      match cs', hl with
      | [c0, c1], _ =>
        obtain ⟨ps0, _, y0, e0, k0, g0⟩ := field hE ht 0 S 0 1 f0 hcS
        obtain ⟨ps1, _, y1, e1, k1, g1⟩ := field hE ht 1 S 1 1 f1 hcS
        obtain ⟨s0, hs0, _, hz0⟩ := DataW.trod_string hS g0
        obtain ⟨s1, hs1, _, hz1⟩ := DataW.trod_string hS g1
        have z0 : c0 = .string s0 := by simpa using hs0
        have z1 : c1 = .string s1 := by simpa using hs1
        subst z0 z1
        refine ⟨(lst s0, lst s1), fun j v hv => ?_, by show (lst s0).length ≤ _; rw [lst_len]; omega, by show (lst s1).length ≤ _; rw [lst_len]; omega⟩
        have hj : j < 2 := (List.getElem?_eq_some_iff.1 hv).1
        have := hat j hj
        rw [bts_lst, bts_lst] at hv
        rw [hv] at this
        exact this
    obtain ⟨F, hF⟩ := choose_lt hch
    refine ⟨some ad', len', _, (List.range len').map F, rfl, by simp, hlc, by omega, fun hL => ?_, fun x hx => ?_⟩
    · have hpos : 0 < len' := by simpa using hL
      have hspot : ad'.spot = none := by
        have := World.cell?_spot ((hF 0 hpos).1 0 _ rfl)
        simpa [Addr.add] using this
      obtain ⟨b0, off, spot⟩ := ad'
      simp only at hspot
      subst hspot
      refine ⟨b0, off, rfl, ?_, fun i c' hg => ?_⟩
      · have := (hF 0 hpos).1 0 _ rfl
        rw [Addr.add_mid, Addr.add_mid] at this
        exact block_lt_of_cell this
      · have hil : i < len' := by
          have := (List.getElem?_eq_some_iff.1 hg).1
          simpa using this
        have e : F i = c' := by
          rw [List.getElem?_map, List.getElem?_range hil] at hg
          simpa using hg
        have h0 := (hF i hil).1 0 _ rfl
        have h1 := (hF i hil).1 1 _ rfl
        rw [e, Addr.add_mid, Addr.add_mid] at h0 h1
        exact ⟨h0, h1⟩
    · rw [List.mem_map] at hx
      obtain ⟨i, hi, rfl⟩ := hx
      exact (hF i (by simpa using hi)).2
theorem open_host2 {T S t L A I : TypeId} {fs ls am : Array Field} (hT : P.underlying T = some (.struct fs)) (hS : P.underlying S = some .string) (hu : P.underlying t = some (.slice L)) (hL : P.underlying L = some (.struct ls)) (hA : P.underlying A = some (.struct am)) (hI : P.underlying I = some (.int .i64)) (hcL : P.cellsOf L = 2) (hcS : P.cellsOf S = 1) (hct : P.cellsOf t = 1) (hcA : P.cellsOf A = 3) (hcI : P.cellsOf I = 1)
    (f0 : (fs[0]?).map (fun f => (f.type, f.offset)) = some (S, 0)) (f1 : (fs[1]?).map (fun f => (f.type, f.offset)) = some (t, 1)) (f2 : (fs[2]?).map (fun f => (f.type, f.offset)) = some (A, 2)) (f3 : (fs[3]?).map (fun f => (f.type, f.offset)) = some (A, 5))
    (l0 : (ls[0]?).map (fun f => (f.type, f.offset)) = some (S, 0)) (l1 : (ls[1]?).map (fun f => (f.type, f.offset)) = some (S, 1))
    (a0 : (am[0]?).map (fun f => (f.type, f.offset)) = some (I, 0)) (a1 : (am[1]?).map (fun f => (f.type, f.offset)) = some (I, 1)) (a2 : (am[2]?).map (fun f => (f.type, f.offset)) = some (I, 2))
    {fuel : Nat} {cs : List Value} (hl8 : cs.length = 8) {x : DataW H × List MemPlace} (h : DataW.trod enc P W 0 (fun _ => true) true fuel T cs = some x) : ∃ (q : Hst) (la : Option Addr) (lc : Nat), cs = hcs q la lc ∧ q.labels.length ≤ lc ∧ q.labels.length ≤ 9223372036854775807 ∧ Labs W la q.labels ∧ HSz q := by
  have hmx : maxLen = 9223372036854775807 := rfl
  match cs, hl8 with
  | [c0, c1, c2, c3, c4, c5, c6, c7], _ =>
    obtain ⟨_, _, y0, _, _, g0⟩ := field hT h 0 S 0 1 f0 hcS
    obtain ⟨_, _, y1, _, _, g1⟩ := field hT h 1 t 1 1 f1 hct
    obtain ⟨_, _, y2, _, _, g2⟩ := field hT h 2 A 2 3 f2 hcA
    obtain ⟨_, _, y3, _, _, g3⟩ := field hT h 3 A 5 3 f3 hcA
    obtain ⟨s0, hs0, _, hz0⟩ := DataW.trod_string hS g0
    have z0 : c0 = .string s0 := by simpa using hs0
    subst z0
    obtain ⟨la, ln, lc, R, z1, h1, h2, h3, h4, h5⟩ := labs_cell2 hu hL hS hcL hcS l0 l1 (v := c1) (by simpa using g1)
    subst z1
    obtain ⟨p, rfl, rfl, rfl⟩ := open_amt hA hI hcI a0 a1 a2 (by simpa using g2)
    obtain ⟨q, rfl, rfl, rfl⟩ := open_amt hA hI hcI a0 a1 a2 (by simpa using g3)
    subst h1
    exact ⟨⟨lst s0, R, p, q⟩, la, lc, by unfold hcs; simp only [bts_lst], h2, h3, h4, by show (lst s0).length ≤ _; rw [lst_len]; omega, h5⟩
theorem hcs_v {q : Hst} {la : Option Addr} {lc : Nat} (h1 : q.labels.length ≤ lc) (h2 : q.labels.length ≤ 9223372036854775807) (h3 : Labs W la q.labels) : HostV W q (.agg (hcs q la lc).toArray) :=
  ⟨la, _, lc, rfl, rfl, h1, h2, h3⟩
theorem open_hosts {u T S t L A I : TypeId} {fs ls am : Array Field} (hR : P.underlying u = some (.slice T)) (hT : P.underlying T = some (.struct fs)) (hS : P.underlying S = some .string) (hu : P.underlying t = some (.slice L)) (hL : P.underlying L = some (.struct ls)) (hA : P.underlying A = some (.struct am)) (hI : P.underlying I = some (.int .i64)) (hcT : P.cellsOf T = 8) (hcL : P.cellsOf L = 2) (hcS : P.cellsOf S = 1) (hct : P.cellsOf t = 1) (hcA : P.cellsOf A = 3) (hcI : P.cellsOf I = 1)
    (f0 : (fs[0]?).map (fun f => (f.type, f.offset)) = some (S, 0)) (f1 : (fs[1]?).map (fun f => (f.type, f.offset)) = some (t, 1)) (f2 : (fs[2]?).map (fun f => (f.type, f.offset)) = some (A, 2)) (f3 : (fs[3]?).map (fun f => (f.type, f.offset)) = some (A, 5))
    (l0 : (ls[0]?).map (fun f => (f.type, f.offset)) = some (S, 0)) (l1 : (ls[1]?).map (fun f => (f.type, f.offset)) = some (S, 1))
    (a0 : (am[0]?).map (fun f => (f.type, f.offset)) = some (I, 0)) (a1 : (am[1]?).map (fun f => (f.type, f.offset)) = some (I, 1)) (a2 : (am[2]?).map (fun f => (f.type, f.offset)) = some (I, 2))
    {fuel : Nat} {v : Value} {x : DataW H × List MemPlace} (hf : DataW.trod enc P W 0 (fun _ => true) true fuel u [v] = some x) : ∃ (a : Option Addr) (n cap : Nat) (L : List Hst), v = .slice a n cap ∧ n = L.length ∧ n ≤ cap ∧ n ≤ 9223372036854775807 ∧ Hosts W a L := by
  have hmx : maxLen = 9223372036854775807 := rfl
  rcases open_slice hR hf with ⟨e, _⟩ | ⟨ad', len', cap', m, n, D, Pl, e, _, hlc, hm, hmm, hx, hi⟩
  · have z : v = .slice none 0 0 := by simpa using e
    subst z
    exact ⟨none, 0, 0, [], rfl, rfl, Nat.le_refl _, by omega, fun h => absurd h (by simp)⟩
  · have z : v = .slice (some ad') len' cap' := by simpa using e
    subst z
    simp only [if_true] at hmm
    subst hmm
    have hch : ∀ k, k < len' → ∃ q : Hst, ∃ (la : Option Addr) (lc : Nat), (∀ j v, (hcs q la lc)[j]? = some v → W.cell? ((ad'.add (k * 8)).add j) = some v) ∧ q.labels.length ≤ lc ∧ q.labels.length ≤ 9223372036854775807 ∧ Labs W la q.labels ∧ HSz q := by
      intro k hk
      obtain ⟨cs', hc', ht⟩ := hi k (by omega)
      obtain ⟨_, hl, hat⟩ := World.cells?_some hc'
      rw [hcT] at hl hat
      obtain ⟨q, la, lc, rfl, g1, g2, g3, g4⟩ := open_host2 hT hS hu hL hA hI hcL hcS hct hcA hcI f0 f1 f2 f3 l0 l1 a0 a1 a2 hl ht
      refine ⟨q, la, lc, fun j v hv => ?_, g1, g2, g3, g4⟩
      have hj : j < 8 := by have := (List.getElem?_eq_some_iff.1 hv).1; rw [hl] at this; exact this
      have := hat j hj
      rw [hv] at this
      exact this
    obtain ⟨F, hF⟩ := choose_lt hch
    refine ⟨some ad', len', _, (List.range len').map F, rfl, by simp, hlc, by omega, fun hL => ?_⟩
    have hpos : 0 < len' := by simpa using hL
    have hspot : ad'.spot = none := by
      obtain ⟨la, lc, hcell, _⟩ := hF 0 hpos
      have := World.cell?_spot (hcell 0 _ rfl)
      simpa [Addr.add] using this
    obtain ⟨b0, off, spot⟩ := ad'
    simp only at hspot
    subst hspot
    refine ⟨b0, off, rfl, ?_, fun i c' hg => ?_⟩
    · obtain ⟨la, lc, hcell, _⟩ := hF 0 hpos
      have := hcell 0 _ rfl
      rw [Addr.add_mid, Addr.add_mid] at this
      exact block_lt_of_cell this
    · have hil : i < len' := by
        have := (List.getElem?_eq_some_iff.1 hg).1
        simpa using this
      have e : F i = c' := by
        rw [List.getElem?_map, List.getElem?_range hil] at hg
        simpa using hg
      obtain ⟨la, lc, hcell, g1, g2, g3, g4⟩ := hF i hil
      rw [e] at hcell g1 g2 g3 g4
      refine ⟨la, lc, fun j v hv => ?_, g1, g2, g3, g4⟩
      have := hcell j v hv
      rwa [Addr.add_mid, Addr.add_mid] at this
end
end Go.Proofs.Ytnfmopmcckgfdaa
