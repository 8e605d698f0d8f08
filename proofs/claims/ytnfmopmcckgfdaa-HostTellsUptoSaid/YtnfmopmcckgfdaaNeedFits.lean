/- Contracts: the document's fits; does a need fit another one. -/
import Derived.Test.YtnfmopmcckgfdaaNeedAdd
import Derived.Deep.RegionHeld3
namespace Go.Proofs.Ytnfmopmcckgfdaa
open Go.ChangeShapes Go.WideShapes Go.ChangeAt Go.RowKit
set_option linter.unusedVariables false
set_option linter.unusedSimpArgs false
theorem amounts_exact (c m g : Int) (w : World) : Calls Try.prog 39 #[.agg #[.int .i64 c, .int .i64 m, .int .i64 g]] w fun e w' => e = .returned (.agg #[.int .i64 c, .int .i64 m, .int .i64 g]) ∧ w' = (w.alloc (.cells #[.int .i64 c, .int .i64 m, .int .i64 g] 27)).alloc (.cells #[.int .i64 c, .int .i64 m, .int .i64 g] 68) := by
  go_enter Try.func39, Try.ntmps39
  go_wp2
  exact bodyPost_ret (v := .agg #[.int .i64 c, .int .i64 m, .int .i64 g]) (by simp [results, Try.results39, go_sem]) rfl ⟨rfl, rfl⟩
/-- two structs of three, in two blocks on end -/
def Two3 (k : Nat) (a b c x y z : Int) (w : World) : Prop := k + 1 < w.heap.size ∧ w.cell? ⟨k, 0, none⟩ = some (.int .i64 a) ∧ w.cell? ⟨k, 1, none⟩ = some (.int .i64 b) ∧ w.cell? ⟨k, 2, none⟩ = some (.int .i64 c) ∧
  w.cell? ⟨k + 1, 0, none⟩ = some (.int .i64 x) ∧ w.cell? ⟨k + 1, 1, none⟩ = some (.int .i64 y) ∧ w.cell? ⟨k + 1, 2, none⟩ = some (.int .i64 z)
theorem Two3.below {k : Nat} {a b c x y z : Int} {w w' : World} (h : Two3 k a b c x y z w) (hb : Below w.heap.size w w') : Two3 k a b c x y z w' := by
  obtain ⟨h0, h1, h2, h3, h4, h5, h6⟩ := h
  refine ⟨Nat.lt_of_lt_of_le h0 hb.size, ?_, ?_, ?_, ?_, ?_, ?_⟩
  all_goals first
    | exact (hb.cell (p := ⟨k, _, none⟩) (by show k < _; omega)).trans (by assumption)
    | exact (hb.cell (p := ⟨k + 1, _, none⟩) h0).trans (by assumption)
theorem sizes {B : Nat} {W w1 : World} (hb : Below B W w1) : ∀ n, n < W.heap.size → n < w1.heap.size := fun n h => Nat.lt_of_lt_of_le h hb.size
theorem Two3.tail {k : Nat} {a b c x y z : Int} {w : World} (h : Two3 k a b c x y z w) : w.cell? ⟨k, 0, none⟩ = some (.int .i64 a) ∧ w.cell? ⟨k, 1, none⟩ = some (.int .i64 b) ∧ w.cell? ⟨k, 2, none⟩ = some (.int .i64 c) ∧ w.cell? ⟨k + 1, 0, none⟩ = some (.int .i64 x) ∧ w.cell? ⟨k + 1, 1, none⟩ = some (.int .i64 y) ∧ w.cell? ⟨k + 1, 2, none⟩ = some (.int .i64 z) := h.2
/-- both structs lie as they were laid, and what was there before stands -/
def Held3 (w : World) (a b c x y z : Int) (W : World) : Prop := Two3 w.heap.size a b c x y z W ∧ Below w.heap.size w W
theorem Held3.drew {w : World} {a b c x y z : Int} {W : World} (h : Held3 w a b c x y z W) : Held3 w a b c x y z W.drew := ⟨h.1, h.2.drew⟩
theorem Held3.alloc {w : World} {a b c x y z : Int} {W : World} (h : Held3 w a b c x y z W) (o : Obj) : Held3 w a b c x y z (W.alloc o) := ⟨h.1.below ((Below.refl _ _).alloc (Nat.le_refl _) _), h.2.alloc h.2.size _⟩
theorem Held3.set {w : World} {a b c x y z : Int} {W : World} (h : Held3 w a b c x y z W) {p : Addr} {v : Value} (hp : w.heap.size + 1 < p.block) : Held3 w a b c x y z (W.setCell p v) := by
  refine ⟨?_, h.2.setCell (by omega) _⟩
  obtain ⟨h0, h1, h2, h3, h4, h5, h6⟩ := h.1
  refine ⟨by simpa using h0, ?_, ?_, ?_, ?_, ?_, ?_⟩
  all_goals
    rw [cell_set, if_neg (by intro e; subst e; simp at hp; try omega)]
    assumption
theorem Held3.below {w : World} {a b c x y z : Int} {W W' : World} (h : Held3 w a b c x y z W) (hb : Below W.heap.size W W') : Held3 w a b c x y z W' := ⟨h.1.below hb, h.2.trans (hb.mono h.2.size)⟩
theorem Held3.tail {w : World} {a b c x y z : Int} {W : World} (h : Held3 w a b c x y z W) : W.cell? ⟨w.heap.size, 0, none⟩ = some (.int .i64 a) ∧ W.cell? ⟨w.heap.size, 1, none⟩ = some (.int .i64 b) ∧ W.cell? ⟨w.heap.size, 2, none⟩ = some (.int .i64 c) ∧ W.cell? ⟨w.heap.size + 1, 0, none⟩ = some (.int .i64 x) ∧ W.cell? ⟨w.heap.size + 1, 1, none⟩ = some (.int .i64 y) ∧ W.cell? ⟨w.heap.size + 1, 2, none⟩ = some (.int .i64 z) := h.1.2
set_option maxHeartbeats 8000000 in
theorem needFits_any (a b c x y z : Int) (w : World) : Calls Try.prog 17 #[.agg #[.int .i64 a, .int .i64 b, .int .i64 c], .agg #[.int .i64 x, .int .i64 y, .int .i64 z]] w fun e w' => e = .returned (.bool (fitsB a b c x y z)) ∧ Below w.heap.size w w' := by
  go_enter Try.func17, Try.ntmps17
  go_wp2_with fail
  have q0 : Two3 w.heap.size a b c x y z ((w.alloc (.cells #[.int .i64 a, .int .i64 b, .int .i64 c] 27)).alloc (.cells #[.int .i64 x, .int .i64 y, .int .i64 z] 27)) := by
    refine ⟨by simp, ?_, ?_, ?_, ?_, ?_, ?_⟩
    all_goals simp [go_sem]
  have hB0 : Below w.heap.size w ((w.alloc (.cells #[.int .i64 a, .int .i64 b, .int .i64 c] 27)).alloc (.cells #[.int .i64 x, .int .i64 y, .int .i64 z] 27)) := by go_grown
  generalize ((w.alloc (.cells #[.int .i64 a, .int .i64 b, .int .i64 c] 27)).alloc (.cells #[.int .i64 x, .int .i64 y, .int .i64 z] 27)) = w2 at *
  obtain ⟨q1, q2, q3, q4, q5, q6, q7⟩ := id q0
  have hk : Held3 w a b c x y z w2 := ⟨q0, hB0⟩
  clear q0 hB0
  go_region_held3 (fun w' => w'.cell? ⟨w.heap.size, 0, none⟩ = some (.int .i64 a) ∧ w'.cell? ⟨w.heap.size, 1, none⟩ = some (.int .i64 b) ∧ w'.cell? ⟨w.heap.size, 2, none⟩ = some (.int .i64 c) ∧ w'.cell? ⟨w.heap.size + 1, 0, none⟩ = some (.int .i64 x) ∧ w'.cell? ⟨w.heap.size + 1, 1, none⟩ = some (.int .i64 y) ∧ w'.cell? ⟨w.heap.size + 1, 2, none⟩ = some (.int .i64 z))
    ((refine Held3.tail ?_; repeat (first | with_reducible exact hk | with_reducible apply Held3.drew | with_reducible apply Held3.alloc | (with_reducible refine Held3.set ?_ (by dsimp only; omega)))))
    (first
      | (go_at_call 39; refine Calls.mono (amounts_exact _ _ _ _) ?_; rintro e w1 ⟨rfl, rfl⟩))
  all_goals
    clear q2 q3 q4 q5 q6 q7
    cases hf : fitsB a b c x y z with
    | true =>
      obtain ⟨f1, f2, f3⟩ := fitsB_yes hf
      have HFF := Lib.hid hf
      clear hf
      go_wp2
      go_ret
      refine ⟨ret_bool (by rw [HFF.out] <;> first | rfl | (simp; done) | (simp; omega)), And.right (a := Two3 w.heap.size a b c x y z _) (show Held3 w a b c x y z _ from ?_)⟩
      (repeat (first | with_reducible exact hk | with_reducible apply Held3.drew | with_reducible apply Held3.alloc | (with_reducible refine Held3.set ?_ (by dsimp only; omega))))
    | false =>
      have HF := fitsB_no hf
      have HFF := Lib.hid hf
      clear hf
      rcases HF with f1 | ⟨f1, f2⟩ | ⟨f1, f2, f3⟩
      all_goals
        go_wp2
        go_ret
        refine ⟨ret_bool (by rw [HFF.out] <;> first | rfl | (simp; done) | (simp; omega)), And.right (a := Two3 w.heap.size a b c x y z _) (show Held3 w a b c x y z _ from ?_)⟩
        (repeat (first | with_reducible exact hk | with_reducible apply Held3.drew | with_reducible apply Held3.alloc | (with_reducible refine Held3.set ?_ (by dsimp only; omega))))
end Go.Proofs.Ytnfmopmcckgfdaa
