/- Three appends in whatever order, and what is behind them in a row. -/
import Derived.Test.YtfjoakhcgpckgaaThree
import Derived.StillTail
namespace Go.Proofs.Ytfjoakhcgpckgaa
open Go.ChangeShapes Go.WideShapes Go.ChangeAt Go.RowKit
set_option linter.unusedVariables false
open Sh St
section
variable {gb i : Nat} {vr vs vo : Value} {xr xs xo : List Value} {u1 u2 u3 : Value} {w0 : World} {l : Array Bool} {x70 x71 x72 x74 x75 x79 x80 : Value} {w w' : World}
theorem JJ.done (h : JJ gb i vr xr vs xs vo xo u1 u2 u3 w0 l x70 x71 x72 x74 x75 x79 x80 w) (hz : undone 13 l = 0) : ∃ g1 c1 g2 c2 g3 c3, x71 = .slice (some ⟨g1, 0, none⟩) (i + 1) c1 ∧ x75 = .slice (some ⟨g2, 0, none⟩) (i + 1) c2 ∧ x80 = .slice (some ⟨g3, 0, none⟩) (i + 1) c3 ∧ Tri gb vs w0 (.slice (some ⟨g1, 0, none⟩) (i + 1) c1) (i + 1) (xr ++ [u1]) (.slice (some ⟨g2, 0, none⟩) (i + 1) c2) (i + 1) (xs ++ [u2]) (.slice (some ⟨g3, 0, none⟩) (i + 1) c3) (i + 1) (xo ++ [u3]) w := by
  obtain ⟨g1, c1, rfl, h1⟩ := h.r1 (undone_zero hz 3 (by decide))
  obtain ⟨g2, c2, rfl, h2⟩ := h.s1 (undone_zero hz 7 (by decide))
  obtain ⟨g3, c3, rfl, h3⟩ := h.o1 (undone_zero hz 12 (by decide))
  exact ⟨g1, c1, g2, c2, g3, c3, rfl, rfl, rfl, h1, h2, h3, h.ptr, h.bel⟩
def lit16 : Array Bool := #[true, true, true, true, true, true, true, true, true, true, true, true, true, false, false, false]
theorem JJ.list (h : JJ gb i vr xr vs xs vo xo u1 u2 u3 w0 l x70 x71 x72 x74 x75 x79 x80 w) (hz : undone 13 l = 0) : l = lit16 := by
  have hs := h.size
  apply Array.ext (by rw [hs]; rfl)
  intro j h1 h2
  have e : l[j] = l.getD j true := by simp [Array.getD_eq_getD_getElem?, h1]
  rw [e]
  by_cases hj : j < 13
  · rw [undone_zero hz j hj]
    have hj2 : j = 0 ∨ j = 1 ∨ j = 2 ∨ j = 3 ∨ j = 4 ∨ j = 5 ∨ j = 6 ∨ j = 7 ∨ j = 8 ∨ j = 9 ∨ j = 10 ∨ j = 11 ∨ j = 12 := by omega
    rcases hj2 with rfl | rfl | rfl | rfl | rfl | rfl | rfl | rfl | rfl | rfl | rfl | rfl | rfl <;> rfl
  · rw [h.tail j (by omega) (by omega)]
    have hj2 : j = 13 ∨ j = 14 ∨ j = 15 := by omega
    rcases hj2 with rfl | rfl | rfl <;> rfl
theorem JJ.start {L : Array Bool} (hL : L = #[true, true, false, false, false, true, false, false, true, true, true, false, false, false, false, false]) (h : Tri gb vs w0 vr i xr vs i xs vo i xo w) : JJ gb i vr xr vs xs vo xo u1 u2 u3 w0 L x70 x71 x72 x74 x75 x79 x80 w := by
  subst hL
  refine ⟨rfl, ?_, ?_, h.ptr, h.bel, fun h => absurd h (by decide), fun _ => h.r, fun h => absurd h (by decide), fun h => absurd h (by decide), fun _ => h.s, fun h => absurd h (by decide), fun h => absurd h (by decide), fun _ => h.o, fun h => absurd h (by decide), fun h => absurd h (by decide)⟩
  · decide
  · intro k h1 h2
    have hj2 : k = 13 ∨ k = 14 ∨ k = 15 := by omega
    rcases hj2 with rfl | rfl | rfl <;> rfl
end
theorem ev_at {a : Act} {k : Nat} {v : Value} (h : a.eval (.tmp k) = v) (hk : k < a.tmps.size) : a.tmps[k]? = some v := by
  rw [← h]
  simp [Act.eval, Array.getD_eq_getD_getElem?, hk]
set_option maxHeartbeats 1600000 in
theorem three_tail {l : List Oper} {Q : Exit → Act → World → Prop} {gb i : Nat} {vr : Value} {xr : List Value} {vs : Value} {xs : List Value} {vo : Value} {xo : List Value} {m rv qv : Int} {w0 : World} {L : Array Bool} {a1 : Act} {W : World} (hi : i ≤ 100)
    (h2 : ∃ o, l.toArray[2]? = some o ∧ o.guard = none ∧ o.dst = some 70 ∧ o.op = .buildSlice 58 1 #[(0, .tmp 69)]) (h3 : ∃ o, l.toArray[3]? = some o ∧ o.guard = none ∧ o.dst = some 71 ∧ o.op = .call { callee := .builtin .append, args := #[.tmp 68, .tmp 70], argTypes := #[58, 58] } ∧ (o.after.any fun e => Region.binds .any e && e.on == 2) = true) (h4 : ∃ o, l.toArray[4]? = some o ∧ o.guard = none ∧ o.dst = some 72 ∧ o.op = .load 213 (.tmp 12)) (h6 : ∃ o, l.toArray[6]? = some o ∧ o.guard = none ∧ o.dst = some 74 ∧ o.op = .buildSlice 213 1 #[(0, .tmp 73)]) (h7 : ∃ o, l.toArray[7]? = some o ∧ o.guard = none ∧ o.dst = some 75 ∧ o.op = .call { callee := .builtin .append, args := #[.tmp 72, .tmp 74], argTypes := #[213, 213] } ∧ (o.after.any fun e => Region.binds .any e && e.on == 4) = true ∧ (o.after.any fun e => Region.binds .any e && e.on == 6) = true) (h11 : ∃ o, l.toArray[11]? = some o ∧ o.guard = none ∧ o.dst = some 79 ∧ o.op = .buildSlice 36 1 #[(0, .tmp 78)]) (h12 : ∃ o, l.toArray[12]? = some o ∧ o.guard = none ∧ o.dst = some 80 ∧ o.op = .call { callee := .builtin .append, args := #[.tmp 76, .tmp 79], argTypes := #[36, 36] } ∧ (o.after.any fun e => Region.binds .any e && e.on == 11) = true)
    (e68 : a1.eval (.tmp 68) = vr) (e69 : a1.eval (.tmp 69) = (.int .i64 m)) (e12 : a1.eval (.tmp 12) = (.pointer (some ⟨gb, 0, none⟩))) (e73 : a1.eval (.tmp 73) = (.int .u64 rv)) (e76 : a1.eval (.tmp 76) = vo) (e78 : a1.eval (.tmp 78) = (.int .i64 qv))
    (hord : ordB .any l.toArray 13 = true) (htail : tailB .any l.toArray 13 = true) (hhead : headB .any l.toArray 13 L = true) (hm : undone 13 L = 7)
    (hsq : Region.seqB .any l.toArray (l.drop 13).length 13 lit16 = true) (h16 : (l.drop 13).length = 3)
    (hL : L = #[true, true, false, false, false, true, false, false, true, true, true, false, false, false, false, false]) (hT : Tri gb vs w0 vr i xr vs i xs vo i xo W) (hs81 : 80 < a1.tmps.size)
    (hend : ∀ x70 x72 x74 x79 g1 c1 g2 c2 g3 c3 w, Tri gb vs w0 (.slice (some ⟨g1, 0, none⟩) (i + 1) c1) (i + 1) (xr ++ [.int .i64 m]) (.slice (some ⟨g2, 0, none⟩) (i + 1) c2) (i + 1) (xs ++ [.int .u64 rv]) (.slice (some ⟨g3, 0, none⟩) (i + 1) c3) (i + 1) (xo ++ [.int .i64 qv]) w → wpList Try.prog l.toArray Q (l.drop 13) (((((((a1.put (some 70) x70).put (some 71) (.slice (some ⟨g1, 0, none⟩) (i + 1) c1)).put (some 72) x72).put (some 74) x74).put (some 75) (.slice (some ⟨g2, 0, none⟩) (i + 1) c2)).put (some 79) x79).put (some 80) (.slice (some ⟨g3, 0, none⟩) (i + 1) c3)) w) : wpAny Try.prog .any l.toArray Q 10 L a1 W := by
  have hA : AA a1 (a1.tmps[70]) (a1.tmps[71]) (a1.tmps[72]) (a1.tmps[74]) (a1.tmps[75]) (a1.tmps[79]) (a1.tmps[80]) a1 := AA.start trivial (Array.getElem?_eq_getElem _) (Array.getElem?_eq_getElem _) (Array.getElem?_eq_getElem _) (Array.getElem?_eq_getElem _) (Array.getElem?_eq_getElem _) (Array.getElem?_eq_getElem _) (Array.getElem?_eq_getElem _)
  refine three_rule hi h2 h3 h4 h6 h7 h11 h12 (ev_at e68 (by omega)) (ev_at e69 (by omega)) (ev_at e12 (by omega)) (ev_at e73 (by omega)) (ev_at e76 (by omega)) (ev_at e78 (by omega)) hord htail hhead hm (JJ.start hL hT) hA ?_
  intro y70 y71 y72 y74 y75 y79 y80 a w li hAA hJ hz
  obtain ⟨g1, c1, g2, c2, g3, c3, rfl, rfl, rfl, ht⟩ := hJ.done hz
  rw [hAA.eq, hJ.list hz]
  have := wpAny_of_seq (md := .any) (Q' := Q) (l.drop 13) 13 lit16 _ w (fun j => by simp [List.getElem?_drop]) hsq (hend y70 y72 y74 y79 g1 c1 g2 c2 g3 c3 w ht)
  rwa [h16] at this
end Go.Proofs.Ytfjoakhcgpckgaa
