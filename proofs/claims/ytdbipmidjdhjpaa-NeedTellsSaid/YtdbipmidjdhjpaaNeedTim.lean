/- Plain facts on how often one need is in another one, and on blocks of three cells. -/
import Derived.Test.YtdbipmidjdhjpaaNeedMul
import Derived.Test.YtdbipmidjdhjpaaNeedSum
namespace Go.Proofs.Ytdbipmidjdhjpaa
open Go.ChangeShapes Go.WideShapes Go.ChangeAt Go.RowKit
set_option linter.unusedVariables false
theorem tmin_range {n a x : Int} (ha : 0 ≤ a) (hx : 0 ≤ x ∧ x ≤ 1099511627776) (hn : 0 ≤ n ∧ n ≤ 1099511627776) : 0 ≤ tmin n a x ∧ tmin n a x ≤ n ∧ (0 < a → tmin n a x ≤ x / a ∧ x / a ≤ 1099511627776) ∧ (tmin n a x = n ∨ (0 < a ∧ tmin n a x = x / a)) := by
  have h0 : 0 ≤ x / a := Int.ediv_nonneg hx.1 ha
  have h1 : 0 < a → x / a ≤ x := fun _ => Int.ediv_le_self _ hx.1
  unfold tmin
  split
  · have := h1 ‹_›; omega
  · omega
theorem tim3_facts {a b c x y z : Int} (ha : 0 ≤ a) (hb : 0 ≤ b) (hc : 0 ≤ c) (hx : 0 ≤ x ∧ x ≤ 1099511627776) (hy : 0 ≤ y ∧ y ≤ 1099511627776) (hz : 0 ≤ z ∧ z ≤ 1099511627776) (h0 : ¬ (a = 0 ∧ b = 0 ∧ c = 0)) :
    0 ≤ tim3 a b c x y z ∧ tim3 a b c x y z ≤ 1099511627776 ∧ timesB a b c x y z (tim3 a b c x y z) = true ∧ timesB a b c x y z (tim3 a b c x y z + 1) = false := by
  obtain ⟨p1, p2, p3, p4⟩ := tmin_range (n := 1099511627776) ha hx ⟨by omega, by omega⟩
  obtain ⟨q1, q2, q3, q4⟩ := tmin_range (n := tim1 a x) hb hy ⟨p1, by unfold tim1; omega⟩
  obtain ⟨r1, r2, r3, r4⟩ := tmin_range (n := tim2 a b x y) hc hz ⟨q1, by unfold tim2; unfold tim1 at *; omega⟩
  have e1 : tmin 1099511627776 a x = tim1 a x := rfl
  have e2 : tmin (tim1 a x) b y = tim2 a b x y := rfl
  have e3 : tmin (tim2 a b x y) c z = tim3 a b c x y z := rfl
  rw [e1] at p1 p2 p3 p4
  rw [e2] at q1 q2 q3 q4
  rw [e3] at r1 r2 r3 r4
  refine ⟨r1, by omega, ?_, ?_⟩
  · simp only [timesB, tim, Bool.and_eq_true, Bool.not_eq_true', Bool.and_eq_false_iff, decide_eq_false_iff_not]
    omega
  · have : ¬ (timesB a b c x y z (tim3 a b c x y z + 1) = true) := by
      simp only [timesB, tim, Bool.and_eq_true, Bool.not_eq_true', Bool.and_eq_false_iff, decide_eq_false_iff_not]
      omega
    simpa using this
/-- blocks of three cells, as they lie -/
def Cells : List (Nat × Int × Int × Int) → World → Prop
  | [], _ => True
  | (k, a, b, c) :: t, W => (k < W.heap.size ∧ W.cell? ⟨k, 0, none⟩ = some (.int .i64 a) ∧ W.cell? ⟨k, 1, none⟩ = some (.int .i64 b) ∧ W.cell? ⟨k, 2, none⟩ = some (.int .i64 c)) ∧ Cells t W
theorem Cells.below : ∀ {L : List (Nat × Int × Int × Int)} {W W' : World}, Cells L W → Below W.heap.size W W' → Cells L W'
  | [], _, _, _, _ => trivial
  | (k, a, b, c) :: t, W, W', ⟨⟨h0, h1, h2, h3⟩, h⟩, hb =>
    have hk : ∀ o, W'.cell? ⟨k, o, none⟩ = W.cell? ⟨k, o, none⟩ := fun o => hb.cell (p := ⟨k, o, none⟩) h0
    ⟨⟨Nat.lt_of_lt_of_le h0 hb.size, (hk _).trans h1, (hk _).trans h2, (hk _).trans h3⟩, Cells.below h hb⟩
theorem Cells.drew {L : List (Nat × Int × Int × Int)} {W : World} (h : Cells L W) : Cells L W.drew := h.below (Below.refl _ _).drew
theorem Cells.alloc {L : List (Nat × Int × Int × Int)} {W : World} (h : Cells L W) (o : Obj) : Cells L (W.alloc o) := h.below ((Below.refl _ _).alloc (Nat.le_refl _) _)
theorem Cells.set : ∀ {L : List (Nat × Int × Int × Int)} {W : World} {p : Addr} {v : Value}, Cells L W → (∀ e ∈ L, e.1 ≠ p.block) → Cells L (W.setCell p v)
  | [], _, _, _, _, _ => trivial
  | (k, a, b, c) :: t, W, p, v, ⟨⟨h0, h1, h2, h3⟩, h⟩, hp =>
    have hk : ∀ o, (W.setCell p v).cell? ⟨k, o, none⟩ = W.cell? ⟨k, o, none⟩ := fun o => by
      rw [cell_set, if_neg]
      intro e
      exact hp (k, a, b, c) (List.mem_cons_self ..) (by rw [e])
    ⟨⟨by simpa using h0, (hk _).trans h1, (hk _).trans h2, (hk _).trans h3⟩, Cells.set h fun e he => hp e (List.mem_cons_of_mem _ he)⟩
end Go.Proofs.Ytdbipmidjdhjpaa
