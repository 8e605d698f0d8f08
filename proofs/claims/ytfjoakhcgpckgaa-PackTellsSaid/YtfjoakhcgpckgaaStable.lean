/- A row of numbers that is sorted in place by a comparison that is handed in: its memory; contracts: swapRange, rotate. -/
import Derived.Test.YtfjoakhcgpckgaaStableM
import Derived.Test.YtfjoakhcgpckgaaHeapW
import Derived.BigRegion
namespace Go.Proofs.Ytfjoakhcgpckgaa
open Go.ChangeShapes Go.WideShapes Go.ChangeAt Go.RowKit
set_option linter.unusedVariables false
open St
def ints64 (L : List Int) : List Value := L.map (.int .i64)
theorem Kept.drewN {F : Nat → Prop} {a w : World} (h : Kept F a w) (q : Nat) : Kept F a (w.drewN q) := by
  refine ⟨?_, ?_, ?_, ?_, fun k hk hn => ?_⟩
  · exact ((Drawn.drewN w q).below 0).os.trans h.os
  · exact ((Drawn.drewN w q).below 0).tape.trans h.tape
  · exact ((Drawn.drewN w q).below 0).output.trans h.output
  · exact Nat.le_trans h.size ((Drawn.drewN w q).below 0).size
  · exact (((Drawn.drewN w q).below (w.heap.size + 1)).block k (by have := h.size; omega)).trans (h.block k hk hn)
/-- the row: its block, what it holds, what it held at first -/
structure Srt (g cp : Nat) (w0 : World) (L0 L : List Int) (w : World) : Prop where
  own : w.ownsRow 0 3 1 (.slice (some ⟨g, 0, none⟩) L.length cp) L.length (ints64 L)
  kept : Kept (fun k => k = g) w0 w
  perm : L.Perm L0
theorem Srt.cell {g cp : Nat} {w0 : World} {L0 L : List Int} {w : World} (h : Srt g cp w0 L0 L w) {i : Nat} {x : Int} (hi : L[i]? = some x) : w.cell? ⟨g, i, none⟩ = some (.int .i64 x) := by
  have := h.own.cells (g := g) rfl i (.int .i64 x) (by unfold ints64; rw [List.getElem?_map, hi]; rfl)
  rwa [show (⟨g, 0, none⟩ : Addr).add i = ⟨g, i, none⟩ from by unfold Addr.add; split <;> simp_all] at this
theorem Srt.frozen {g cp : Nat} {w0 : World} {L0 L : List Int} {w : World} (h : Srt g cp w0 L0 L w) (i : Nat) : w.frozen? ⟨g, i, none⟩ = false := h.own.frozenAt i
theorem Srt.lt {g cp : Nat} {w0 : World} {L0 L : List Int} {w : World} (h : Srt g cp w0 L0 L w) : g < w.heap.size := (h.own.lt g rfl).2
theorem Srt.drew {g cp : Nat} {w0 : World} {L0 L : List Int} {w : World} (h : Srt g cp w0 L0 L w) : Srt g cp w0 L0 L w.drew := ⟨h.own, h.kept.drew, h.perm⟩
theorem Srt.drewN {g cp : Nat} {w0 : World} {L0 L : List Int} {w : World} (h : Srt g cp w0 L0 L w) (q : Nat) : Srt g cp w0 L0 L (w.drewN q) := ⟨ownsRow_below h.own ((Drawn.drewN w q).below _), h.kept.drewN q, h.perm⟩
theorem Srt.two {g cp : Nat} {w0 : World} {L0 : List Int} {w : World} {i j : Nat} {x y : Int} {L L' : List Int} (h : Srt g cp w0 L0 L w) (e : (L.set i y).set j x = L') (hp : L'.Perm L) : Srt g cp w0 L0 L' ((w.setCell ⟨g, i, none⟩ (.int .i64 y)).setCell ⟨g, j, none⟩ (.int .i64 x)) := by
  have hl : L'.length = L.length := by rw [← e]; simp
  have h1 := (h.own.stored i (.int .i64 y)).1
  have h2 := (h1.stored j (.int .i64 x)).1
  refine ⟨?_, (h.kept.setCell (p := ⟨g, i, none⟩) (.inl rfl) _).setCell (p := ⟨g, j, none⟩) (.inl rfl) _, hp.trans h.perm⟩
  rw [hl]
  rwa [show ints64 L' = ((ints64 L).set i (.int .i64 y)).set j (.int .i64 x) from by rw [← e]; unfold ints64; rw [List.map_set, List.map_set]]
theorem sw_perm (P Q R : List Int) (x y : Int) : (P ++ y :: (Q ++ x :: R)).Perm (P ++ x :: (Q ++ y :: R)) := by
  refine List.Perm.append_left P ?_
  have h1 : (y :: (Q ++ x :: R)).Perm (y :: x :: (Q ++ R)) := List.Perm.cons y List.perm_middle
  have h2 : (x :: (Q ++ y :: R)).Perm (x :: y :: (Q ++ R)) := List.Perm.cons x List.perm_middle
  exact h1.trans ((List.Perm.swap x y (Q ++ R)).trans h2.symm)
theorem Srt.sw {g cp : Nat} {w0 : World} {L0 P Q R : List Int} {w : World} {x y : Int} {i j : Nat} (h : Srt g cp w0 L0 (P ++ x :: (Q ++ y :: R)) w) (hi : P.length = i) (hj : P.length + 1 + Q.length = j) :
    Srt g cp w0 L0 (P ++ y :: (Q ++ x :: R)) ((w.setCell ⟨g, i, none⟩ (.int .i64 y)).setCell ⟨g, j, none⟩ (.int .i64 x)) ∧ Srt g cp w0 L0 (P ++ y :: (Q ++ x :: R)) ((w.setCell ⟨g, j, none⟩ (.int .i64 x)).setCell ⟨g, i, none⟩ (.int .i64 y)) := by
  subst hi hj
  exact ⟨h.two (sw_eq P Q R x y) (sw_perm P Q R x y), h.two (sw_eq' P Q R x y) (sw_perm P Q R x y)⟩
theorem take_drop_at {X : List Int} {i : Nat} {x : Int} (h : X[i]? = some x) : X.drop i = x :: X.drop (i + 1) ∧ X.take (i + 1) = X.take i ++ [x] := by
  obtain ⟨hi, rfl⟩ := List.getElem?_eq_some_iff.1 h
  exact ⟨List.drop_eq_getElem_cons hi, List.take_succ_eq_append_getElem hi⟩
/-- two parts, the first k places changed -/
def mixed (A X M Y B : List Int) (i : Nat) : List Int := A ++ (Y.take i ++ X.drop i) ++ M ++ (X.take i ++ Y.drop i) ++ B
theorem mixed_zero (A X M Y B : List Int) : mixed A X M Y B 0 = A ++ X ++ M ++ Y ++ B := by simp [mixed]
theorem mixed_all (A X M Y B : List Int) {k : Nat} (hx : X.length = k) (hy : Y.length = k) : mixed A X M Y B k = A ++ Y ++ M ++ X ++ B := by
  have e1 : Y.take k = Y := List.take_of_length_le (by omega)
  have e2 : X.take k = X := List.take_of_length_le (by omega)
  have e3 : Y.drop k = [] := List.drop_eq_nil_of_le (by omega)
  have e4 : X.drop k = [] := List.drop_eq_nil_of_le (by omega)
  unfold mixed
  rw [e1, e2, e3, e4]
  simp
theorem mixed_step {A X M Y B : List Int} {i : Nat} {x y : Int} (hx : X[i]? = some x) (hy : Y[i]? = some y) :
    mixed A X M Y B i = (A ++ Y.take i) ++ x :: ((X.drop (i + 1) ++ M ++ X.take i) ++ y :: (Y.drop (i + 1) ++ B)) ∧ mixed A X M Y B (i + 1) = (A ++ Y.take i) ++ y :: ((X.drop (i + 1) ++ M ++ X.take i) ++ x :: (Y.drop (i + 1) ++ B)) := by
  obtain ⟨x1, x2⟩ := take_drop_at hx
  obtain ⟨y1, y2⟩ := take_drop_at hy
  unfold mixed
  rw [x1, y1, x2, y2]
  simp
set_option maxRecDepth 20000 in
set_option maxHeartbeats 4000000 in
theorem swapR_any (g cp : Nat) (w0 : World) (L0 A X M Y B : List Int) (k a b n : Nat) (cf : Value) (w : World) (h : Srt g cp w0 L0 (A ++ X ++ M ++ Y ++ B) w) (hx : X.length = k) (hy : Y.length = k) (ha : A.length = a) (hb : a + k + M.length = b) (hn : (A ++ X ++ M ++ Y ++ B).length = n) (h4 : n ≤ 1000) :
    Calls Try.prog 247 #[.slice (some ⟨g, 0, none⟩) n cp, .int .i64 a, .int .i64 b, .int .i64 k, cf] w fun e w' => e = .returned (.tuple #[]) ∧ Srt g cp w0 L0 (A ++ Y ++ M ++ X ++ B) w' := by
  have HX := Lib.hid hx
  have HY := Lib.hid hy
  have HA := Lib.hid ha
  have HBB := Lib.hid hb
  have HN := Lib.hid hn
  have HS : Hid (Srt g cp w0 L0 (mixed A X M Y B 0) w) := Lib.hid (by rw [mixed_zero]; exact h)
  have hlen : a + k + M.length + k + B.length = n := by rw [← hn]; simp [hx, hy, ha]; omega
  have HLN := Lib.hid hlen
  have hkn : b + k ≤ n := by omega
  have hab : a + k ≤ b := by omega
  clear h hx hy ha hb hn hlen
  go_enter Try.func247, Try.ntmps247
  go_wp2_with fail
  go_loopw [10] (fun v wr => ∃ i : Nat, i ≤ k ∧ v = .int .i64 i ∧ Hid (Srt g cp w0 L0 (mixed A X M Y B i) wr)) (fun v _ => k - (intOf v).toNat)
  case atStart => exact ⟨0, by omega, rfl, HS⟩
  case round =>
    clear HS
    obtain ⟨i, hi, rfl, HS⟩ := hrel
    by_cases hik : i < k
    · obtain ⟨x, hx⟩ : ∃ x, X[i]? = some x := ⟨_, List.getElem?_eq_getElem (by have := HX.out; omega)⟩
      obtain ⟨y, hy⟩ : ∃ y, Y[i]? = some y := ⟨_, List.getElem?_eq_getElem (by have := HY.out; omega)⟩
      obtain ⟨e1, e2⟩ := mixed_step (A := A) (M := M) (B := B) hx hy
      have hs := HS.out
      rw [e1] at hs
      have hl1 : (A ++ Y.take i).length = a + i := by rw [List.length_append, List.length_take, HA.out, HY.out]; omega
      have hl2 : (A ++ Y.take i).length + 1 + (X.drop (i + 1) ++ M ++ X.take i).length = b + i := by
        rw [hl1]; simp [HX.out]; have := HBB.out; omega
      have c1 := hs.cell (i := a + i) (by rw [← hl1]; exact at_fst _ _ _)
      have c2 := hs.cell (i := b + i) (by rw [← hl2]; exact at_snd _ _ _ _ _)
      have f1 := hs.frozen (a + i)
      have f2 := hs.frozen (b + i)
      have lg := hs.lt
      obtain ⟨s1, s2⟩ := hs.drew.sw hl1 hl2
      rw [← e2] at s1 s2
      have HS1 := Lib.hid s1
      have HS2 := Lib.hid s2
      have i1 : (0 : Int) ≤ (a : Int) + (i : Int) := by omega
      have i2 : (a : Int) + (i : Int) < (n : Int) := by omega
      have i3 : (0 : Int) ≤ (b : Int) + (i : Int) := by omega
      have i4 : (b : Int) + (i : Int) < (n : Int) := by omega
      have w1 : IntKind.i64.wrap ((a : Int) + (i : Int)) = (a : Int) + (i : Int) := IntWalk.i64_in _ (by omega)
      have w2 : IntKind.i64.wrap ((b : Int) + (i : Int)) = (b : Int) + (i : Int) := IntWalk.i64_in _ (by omega)
      have t1 : ((a : Int) + (i : Int)).toNat = a + i := by omega
      have t2 : ((b : Int) + (i : Int)).toNat = b + i := by omega
      have hne : ¬ a + i = b + i := by omega
      have hne2 : ¬ b + i = a + i := by omega
      clear hs e1 e2 s1 s2 hl1 hl2 hx hy
      go_upto_region 3 with fail
      go_region
      all_goals
        go_wp2_with fail
        go_roundw
        case rel => exact ⟨i + 1, by omega, rfl, by first | exact HS1 | exact HS2⟩
        case measure => simp [intOf]; omega
    · obtain rfl : i = k := by omega
      have HS3 := Lib.hid (show Srt g cp w0 L0 (A ++ Y ++ M ++ X ++ B) wr from by rw [← mixed_all A X M Y B HX.out HY.out]; exact HS.out)
      go_wp2_with fail
      go_end0
      exact ⟨rfl, HS3.out⟩
end Go.Proofs.Ytfjoakhcgpckgaa
