/- What the law of needs finds in memory on its way. -/
import Derived.Test.YtdbipmidjdhjpaaNeedTim
import Derived.Deep.DeepCutAuto
namespace Go.Proofs.Ytdbipmidjdhjpaa
open Go.ChangeShapes Go.WideShapes Go.ChangeAt Go.RowKit
set_option linter.unusedVariables false
set_option linter.unusedSimpArgs false
def needFacts (w : World) (a b c x y z : Int) (L : List (Int × Int × Int)) (v7 v8 v9 v10 v11 v12 v13 v14 v15 v16 v17 : Value) (W : World) : Prop :=
  Below w.heap.size w W ∧ v7 = .bool (bothB a b c x y z && fitsB a b c x y z) ∧ v8 = .int .i64 (bothE a b c x y z) ∧ v10 = .int .i64 (addE a b c x y z) ∧ v12 = .int .i64 (subE a b c x y z) ∧
  v13 = .int .i64 (timesV a b c x y z) ∧ v14 = .int .i64 (timesE a b c x y z) ∧ v16 = .int .i64 (sumN L).e ∧
  ∃ i j s q : Nat, v9 = .pointer (some ⟨i, 0, none⟩) ∧ v11 = .pointer (some ⟨j, 0, none⟩) ∧ v15 = .pointer (some ⟨s, 0, none⟩) ∧ v17 = .pointer (some ⟨q, 0, none⟩) ∧
  w.heap.size < i ∧ w.heap.size < q ∧ w.heap.size + 1 < q ∧ i < q ∧ j < q ∧ s < q ∧
  Cells [(w.heap.size, a, b, c), (w.heap.size + 1, x, y, z), (i, pk (addB a b c x y z) (a + x), pk (addB a b c x y z) (b + y), pk (addB a b c x y z) (c + z)), (j, pk (subB a b c x y z) (a - x), pk (subB a b c x y z) (b - y), pk (subB a b c x y z) (c - z)), (s, (sumN L).c, (sumN L).m, (sumN L).g)] W ∧
  q < W.heap.size ∧ Held1 q 0 0 0 W
theorem Held1.below {k : Nat} {a b c : Int} {W W' : World} (h : Held1 k a b c W) {B : Nat} (hb : Below B W W') (hk : k < B) : Held1 k a b c W' := by
  obtain ⟨h0, h1, h2, h3, h4, h5⟩ := h
  exact ⟨(hb.cell (p := ⟨k, 0, none⟩) hk).trans h0, (hb.cell (p := ⟨k, 1, none⟩) hk).trans h1, (hb.cell (p := ⟨k, 2, none⟩) hk).trans h2, (hb.frozen (p := ⟨k, 0, none⟩) hk).trans h3, (hb.frozen (p := ⟨k, 1, none⟩) hk).trans h4, (hb.frozen (p := ⟨k, 2, none⟩) hk).trans h5⟩
def Kept (w : World) (L : List (Nat × Int × Int × Int)) (W : World) : Prop := Below w.heap.size w W ∧ Cells L W
theorem Kept.below {w W W' : World} {L : List (Nat × Int × Int × Int)} (h : Kept w L W) (hb : Below W.heap.size W W') : Kept w L W' := ⟨h.1.trans (hb.mono h.1.size), h.2.below hb⟩
theorem Kept.drew {w W : World} {L : List (Nat × Int × Int × Int)} (h : Kept w L W) : Kept w L W.drew := ⟨h.1.drew, h.2.drew⟩
theorem Kept.alloc {w W : World} {L : List (Nat × Int × Int × Int)} (h : Kept w L W) (o : Obj) : Kept w L (W.alloc o) := ⟨h.1.alloc h.1.size _, h.2.alloc _⟩
theorem Kept.some3 {w k1 a1 b1 c1 k2 a2 b2 c2 k3 a3 b3 c3 k4 a4 b4 c4 k5 a5 b5 c5 k6 a6 b6 c6 W} (h : Kept w [(k1, a1, b1, c1), (k2, a2, b2, c2), (k3, a3, b3, c3), (k4, a4, b4, c4), (k5, a5, b5, c5), (k6, a6, b6, c6)] W) :
    (W.cell? ⟨k1, 0, none⟩ = some (.int .i64 a1) ∧ W.cell? ⟨k1, 1, none⟩ = some (.int .i64 b1) ∧ W.cell? ⟨k1, 2, none⟩ = some (.int .i64 c1) ∧ W.cell? ⟨k5, 0, none⟩ = some (.int .i64 a5) ∧ W.cell? ⟨k5, 1, none⟩ = some (.int .i64 b5) ∧ W.cell? ⟨k5, 2, none⟩ = some (.int .i64 c5) ∧ W.cell? ⟨k6, 0, none⟩ = some (.int .i64 a6) ∧ W.cell? ⟨k6, 1, none⟩ = some (.int .i64 b6) ∧ W.cell? ⟨k6, 2, none⟩ = some (.int .i64 c6)) := by
  have h := h.2
  exact ⟨h.1.2.1, h.1.2.2.1, h.1.2.2.2, h.2.2.2.2.1.2.1, h.2.2.2.2.1.2.2.1, h.2.2.2.2.1.2.2.2, h.2.2.2.2.2.1.2.1, h.2.2.2.2.2.1.2.2.1, h.2.2.2.2.2.1.2.2.2⟩
theorem Cells.shut3 {k1 a1 b1 c1 k2 a2 b2 c2 k3 a3 b3 c3 k4 a4 b4 c4 k5 a5 b5 c5 k6 a6 b6 c6 W} (h : Cells [(k1, a1, b1, c1), (k2, a2, b2, c2), (k3, a3, b3, c3), (k4, a4, b4, c4), (k5, a5, b5, c5), (k6, a6, b6, c6)] W) :
    (W.cell? ⟨k1, 0, none⟩ = some (.int .i64 a1) ∧ W.cell? ⟨k1, 1, none⟩ = some (.int .i64 b1) ∧ W.cell? ⟨k1, 2, none⟩ = some (.int .i64 c1) ∧ W.cell? ⟨k2, 0, none⟩ = some (.int .i64 a2) ∧ W.cell? ⟨k2, 1, none⟩ = some (.int .i64 b2) ∧ W.cell? ⟨k2, 2, none⟩ = some (.int .i64 c2) ∧ W.cell? ⟨k4, 0, none⟩ = some (.int .i64 a4) ∧ W.cell? ⟨k4, 1, none⟩ = some (.int .i64 b4) ∧ W.cell? ⟨k4, 2, none⟩ = some (.int .i64 c4) ∧ W.cell? ⟨k5, 0, none⟩ = some (.int .i64 a5) ∧ W.cell? ⟨k5, 1, none⟩ = some (.int .i64 b5) ∧ W.cell? ⟨k5, 2, none⟩ = some (.int .i64 c5) ∧ W.cell? ⟨k6, 0, none⟩ = some (.int .i64 a6) ∧ W.cell? ⟨k6, 1, none⟩ = some (.int .i64 b6) ∧ W.cell? ⟨k6, 2, none⟩ = some (.int .i64 c6)) :=
  ⟨h.1.2.1, h.1.2.2.1, h.1.2.2.2, h.2.1.2.1, h.2.1.2.2.1, h.2.1.2.2.2, h.2.2.2.1.2.1, h.2.2.2.1.2.2.1, h.2.2.2.1.2.2.2, h.2.2.2.2.1.2.1, h.2.2.2.2.1.2.2.1, h.2.2.2.2.1.2.2.2, h.2.2.2.2.2.1.2.1, h.2.2.2.2.2.1.2.2.1, h.2.2.2.2.2.1.2.2.2⟩
theorem pk_f (v : Int) : pk false v = 0 := rfl
theorem pk_t (v : Int) : pk true v = v := rfl
theorem both_bad {a b c x y z : Int} (h : bothB a b c x y z = false) : addB a b c x y z = false ∧ subB a b c x y z = false ∧ bothE a b c x y z = 4 ∧ addE a b c x y z = 4 ∧ subE a b c x y z = 4 ∧ timesV a b c x y z = 0 ∧ timesE a b c x y z = 4 := by simp [addB, subB, bothE, addE, subE, timesV, timesE, h]
theorem Kept.zero {w W : World} {u1 u2 u5 u6 : Nat × Int × Int × Int} {i j : Nat} {p q : Bool} {a b c x y z : Int} (h : Kept w [u1, u2, (i, pk p a, pk p b, pk p c), (j, pk q x, pk q y, pk q z), u5, u6] W) (hp : p = false) (hq : q = false) : Kept w [u1, u2, (i, 0, 0, 0), (j, 0, 0, 0), u5, u6] W := by subst hp hq; exact h
theorem Kept.cons_new {w W : World} {L : List (Nat × Int × Int × Int)} {a b c : Int} {t : TypeId} (h : Kept w L W) : Kept w ((W.heap.size, a, b, c) :: L) (W.alloc (.cells #[.int .i64 a, .int .i64 b, .int .i64 c] t)) := ⟨(h.alloc _).1, ⟨by simp, by simp [go_sem], by simp [go_sem], by simp [go_sem]⟩, (h.alloc _).2⟩
theorem Kept.jab {w W : World} {k0 k1 k2 k3 k4 : Nat} {a0 b0 c0 a1 b1 c1 a2 b2 c2 a3 b3 c3 a4 b4 c4 : Int} {L : List (Nat × Int × Int × Int)} (h : Kept w ((k0, a0, b0, c0) :: (k1, a1, b1, c1) :: (k2, a2, b2, c2) :: (k3, a3, b3, c3) :: (k4, a4, b4, c4) :: L) W) :
    (W.cell? ⟨k1, 0, none⟩ = some (.int .i64 a1) ∧ W.cell? ⟨k1, 1, none⟩ = some (.int .i64 b1) ∧ W.cell? ⟨k1, 2, none⟩ = some (.int .i64 c1) ∧ W.cell? ⟨k2, 0, none⟩ = some (.int .i64 a2) ∧ W.cell? ⟨k2, 1, none⟩ = some (.int .i64 b2) ∧ W.cell? ⟨k2, 2, none⟩ = some (.int .i64 c2) ∧ W.cell? ⟨k4, 0, none⟩ = some (.int .i64 a4) ∧ W.cell? ⟨k4, 1, none⟩ = some (.int .i64 b4) ∧ W.cell? ⟨k4, 2, none⟩ = some (.int .i64 c4)) := by
  have h := h.2
  exact ⟨h.2.1.2.1, h.2.1.2.2.1, h.2.1.2.2.2, h.2.2.1.2.1, h.2.2.1.2.2.1, h.2.2.1.2.2.2, h.2.2.2.2.1.2.1, h.2.2.2.2.1.2.2.1, h.2.2.2.2.1.2.2.2⟩
theorem addB_no {a b c x y z : Int} (hn : needB (a + x) (b + y) (c + z) = false) : addB a b c x y z = false := by simp [addB, hn]
theorem subB_yes {a b c x y z : Int} (h : bothB a b c x y z = true) (hn : fitsB x y z a b c = true) : subB a b c x y z = true ∧ subE a b c x y z = 0 := by simp [subB, subE, h, hn]
theorem subB_no {a b c x y z : Int} (h : bothB a b c x y z = true) (hn : fitsB x y z a b c = false) : subB a b c x y z = false ∧ subE a b c x y z = 10 := by simp [subB, subE, h, hn]
end Go.Proofs.Ytdbipmidjdhjpaa
