/- Plain: asks, as trees: how many there are in one; is one right; what it holds of. -/
import Derived.Test.YtddcaabhbbdbpaaDoorBts
namespace Go.Proofs.YtddcaabhbbdbpaaDoor
open Go.ChangeShapes Go.WideShapes Go.ChangeAt Go.RowKit
set_option linter.unusedVariables false
open Tp
/-- an ask: kind, key, value, number, the asks in it -/
inductive Ask where
  | mk : Int → Bs → Bs → Int → List Ask → Ask
namespace Ask
def kind : Ask → Int | mk k _ _ _ _ => k
def key : Ask → Bs | mk _ a _ _ _ => a
def val : Ask → Bs | mk _ _ a _ _ => a
def num : Ask → Int | mk _ _ _ n _ => n
def sub : Ask → List Ask | mk _ _ _ _ l => l
mutual
def size : Ask → Nat
  | mk _ _ _ _ l => 1 + sizes l
def sizes : List Ask → Nat
  | [] => 0
  | x :: l => size x + sizes l
end
theorem sizes_at {l : List Ask} {i : Nat} {x : Ask} (h : l[i]? = some x) : size x ≤ sizes l := by
  induction l generalizing i with
  | nil => simp at h
  | cons y l ih =>
    rw [sizes]
    cases i with
    | zero => simp at h; subst h; omega
    | succ i => have := ih (i := i) (by simpa using h); omega
theorem sizes_take {l : List Ask} {i : Nat} {x : Ask} (h : l[i]? = some x) : sizes (l.take (i + 1)) = sizes (l.take i) + size x := by
  induction l generalizing i with
  | nil => simp at h
  | cons y l ih =>
    cases i with
    | zero => simp at h; subst h; simp [sizes]
    | succ i =>
      have := ih (i := i) (by simpa using h)
      rw [List.take_succ_cons, List.take_succ_cons, sizes, sizes, this]; omega
theorem sizes_take_le (l : List Ask) (i : Nat) : sizes (l.take i) ≤ sizes l := by
  induction l generalizing i with
  | nil => simp
  | cons y l ih =>
    cases i with
    | zero => simp [sizes]
    | succ i => have := ih i; rw [List.take_succ_cons, sizes, sizes]; omega
theorem size_sub {k : Int} {a b : Bs} {n : Int} {l : List Ask} {i : Nat} {x : Ask} (h : l[i]? = some x) : size x < size (mk k a b n l) := by
  have := sizes_at h
  rw [size]; omega
theorem one_le (x : Ask) : 1 ≤ size x := by
  cases x; rw [size]; omega
def cpu : Bs := [99, 112, 117]
def mem : Bs := [109, 101, 109]
def gpu : Bs := [103, 112, 117]
def unit (s : Bs) : Bool := decide (s = cpu) || decide (s = mem) || decide (s = gpu)
def inner (k : Int) : Nat := if k = 5 ∨ k = 6 then 2 else if k = 4 then 1 else 0
/-- what is wrong with an ask itself -/
def bad (k : Int) (a b : Bs) (n : Int) (len : Nat) : Int :=
  if k < 1 ∨ 6 < k then 1 else
  if len ≠ inner k ∨ (4 ≤ k ∧ a ≠ []) ∨ (k ≠ 2 ∧ b ≠ []) ∨ (k ≠ 3 ∧ n ≠ 0) then 1 else
  if (k = 3 ∧ unit a = false) ∨ ((k = 1 ∨ k = 2) ∧ lab a = false) ∨ (k = 2 ∧ lab b = false) then 3 else
  if n < 0 ∨ 1099511627776 < n then 4 else 0
mutual
def err : Ask → Int
  | mk k a b n l => if bad k a b n l.length ≠ 0 then bad k a b n l.length else errs l
def errs : List Ask → Int
  | [] => 0
  | x :: l => if err x ≠ 0 then err x else errs l
end
/-- the first j of a row are right -/
def OkTo (l : List Ask) (j : Nat) : Prop := errs l = errs (l.drop j)
theorem OkTo.zero (l : List Ask) : OkTo l 0 := rfl
theorem OkTo.succ {l : List Ask} {j : Nat} {x : Ask} (h : OkTo l j) (hx : l[j]? = some x) (he : err x = 0) : OkTo l (j + 1) := by
  unfold OkTo at *
  rw [h, drop_some hx, errs, if_neg (by simp [he])]
theorem OkTo.bad {l : List Ask} {j : Nat} {x : Ask} (h : OkTo l j) (hx : l[j]? = some x) (he : err x ≠ 0) : errs l = err x := by
  unfold OkTo at h
  rw [h, drop_some hx, errs, if_pos he]
theorem OkTo.fin {l : List Ask} {j : Nat} (h : OkTo l j) (hj : l.length ≤ j) : errs l = 0 := by
  unfold OkTo at h
  rw [h, List.drop_eq_nil_of_le hj, errs]
/-- the whole check -/
def fault (x : Ask) : Int := if 60 < size x then 2 else err x
end Ask
/-- five cells -/
def Cells5 (w : World) (b off : Nat) (v : Value) : Prop := ∃ c0 c1 c2 c3 c4, v = .agg #[c0, c1, c2, c3, c4] ∧ w.cell? ⟨b, off, none⟩ = some c0 ∧ w.cell? ⟨b, off + 1, none⟩ = some c1 ∧ w.cell? ⟨b, off + 2, none⟩ = some c2 ∧ w.cell? ⟨b, off + 3, none⟩ = some c3 ∧ w.cell? ⟨b, off + 4, none⟩ = some c4
mutual
/-- a value that reads as an ask -/
def AskV (w : World) : Ask → Value → Prop
  | .mk k a b n l, v => ∃ ad len cap, v = .agg #[.int .i64 k, .string (bts a), .string (bts b), .int .i64 n, .slice ad len cap] ∧ len = l.length ∧ len ≤ cap ∧ cap ≤ 9223372036854775807 ∧ a.length ≤ 9223372036854775807 ∧ b.length ≤ 9223372036854775807 ∧ (0 < len → ∃ bl off, ad = some ⟨bl, off, none⟩ ∧ bl < w.heap.size ∧ AsksV w l bl off)
/-- asks, one behind the other -/
def AsksV (w : World) : List Ask → Nat → Nat → Prop
  | [], _, _ => True
  | x :: l, b, off => (∃ v, Cells5 w b off v ∧ AskV w x v) ∧ AsksV w l b (off + 5)
end
theorem Cells5.below {w w' : World} {b off : Nat} {v : Value} (h : Cells5 w b off v) {B : Nat} (hb : Below B w w') (hB : b < B) : Cells5 w' b off v := by
  obtain ⟨c0, c1, c2, c3, c4, e, h0, h1, h2, h3, h4⟩ := h
  exact ⟨c0, c1, c2, c3, c4, e, (hb.cell (p := ⟨b, _, none⟩) hB).trans h0, (hb.cell (p := ⟨b, _, none⟩) hB).trans h1, (hb.cell (p := ⟨b, _, none⟩) hB).trans h2, (hb.cell (p := ⟨b, _, none⟩) hB).trans h3, (hb.cell (p := ⟨b, _, none⟩) hB).trans h4⟩
mutual
theorem AskV.below {w w' : World} (hb : Below w.heap.size w w') : ∀ (x : Ask) (v : Value), AskV w x v → AskV w' x v
  | .mk k a b n l, v, h => by
    rw [AskV] at h ⊢
    obtain ⟨ad, len, cap, e, h1, h2, h3, h5, h6, h4⟩ := h
    refine ⟨ad, len, cap, e, h1, h2, h3, h5, h6, fun hp => ?_⟩
    obtain ⟨bl, off, e2, hlt, hh⟩ := h4 hp
    exact ⟨bl, off, e2, Nat.lt_of_lt_of_le hlt hb.size, AsksV.below hb l bl off hlt hh⟩
theorem AsksV.below {w w' : World} (hb : Below w.heap.size w w') : ∀ (l : List Ask) (b off : Nat), b < w.heap.size → AsksV w l b off → AsksV w' l b off
  | [], _, _, _, _ => by rw [AsksV]; trivial
  | x :: l, b, off, hlt, h => by
    rw [AsksV] at h ⊢
    obtain ⟨⟨v, h1, h2⟩, h3⟩ := h
    exact ⟨⟨v, h1.below hb hlt, AskV.below hb x v h2⟩, AsksV.below hb l b (off + 5) hlt h3⟩
end
theorem AsksV.at' {w : World} : ∀ {l : List Ask} {b off i : Nat} {x : Ask}, AsksV w l b off → l[i]? = some x → ∃ v, Cells5 w b (off + i * 5) v ∧ AskV w x v
  | [], _, _, _, _, _, h => by simp at h
  | y :: l, b, off, 0, x, h, hx => by
    rw [AsksV] at h
    simp at hx; subst hx
    simpa using h.1
  | y :: l, b, off, i + 1, x, h, hx => by
    rw [AsksV] at h
    have := AsksV.at' (i := i) h.2 (by simpa using hx)
    rwa [show off + 5 + i * 5 = off + (i + 1) * 5 from by omega] at this
/-- one of a row: its cells, and that it reads as an ask -/
theorem AsksV.get {w : World} {l : List Ask} {b off i : Nat} {x : Ask} (h : AsksV w l b off) (hx : l[i]? = some x) : ∃ ad len cap, w.cell? ⟨b, off + i * 5, none⟩ = some (.int .i64 x.kind) ∧ w.cell? ⟨b, off + i * 5 + 1, none⟩ = some (.string (bts x.key)) ∧ w.cell? ⟨b, off + i * 5 + 2, none⟩ = some (.string (bts x.val)) ∧ w.cell? ⟨b, off + i * 5 + 3, none⟩ = some (.int .i64 x.num) ∧ w.cell? ⟨b, off + i * 5 + 4, none⟩ = some (.slice ad len cap) ∧ AskV w x (.agg #[.int .i64 x.kind, .string (bts x.key), .string (bts x.val), .int .i64 x.num, .slice ad len cap]) := by
  obtain ⟨v, ⟨c0, c1, c2, c3, c4, e, h0, h1, h2, h3, h4⟩, hv⟩ := h.at' hx
  cases x with
  | mk k a b' n l' =>
    have hv2 := hv
    rw [AskV] at hv2
    obtain ⟨ad, len, cap, e2, _⟩ := hv2
    rw [e] at e2
    simp only [Value.agg.injEq, Array.mk.injEq, List.cons.injEq, and_true] at e2
    obtain ⟨rfl, rfl, rfl, rfl, rfl⟩ := e2
    exact ⟨ad, len, cap, h0, h1, h2, h3, h4, by subst e; exact hv⟩
end Go.Proofs.YtddcaabhbbdbpaaDoor
