/- What the document's reader of an ask tells; its cases. -/
import Derived.Test.YtddcaabhbbdbpaaDoorAskTwo
import Derived.Test.YtddcaabhbbdbpaaDoorAskFront
import Derived.Test.YtddcaabhbbdbpaaDoorIntOf
namespace Go.Proofs.YtddcaabhbbdbpaaDoor
open Go.ChangeShapes Go.WideShapes Go.ChangeAt Go.RowKit
set_option linter.unusedVariables false
open Tp
/-- what the document's reader tells -/
def AskAtQ (w : World) (o : Option (Ask × Bs)) (e : Ending) (w' : World) : Prop := Below w.heap.size w w' ∧ match o with
  | some (x, r) => ∃ v, e = .returned (.tuple #[v, .string (bts r), .bool true]) ∧ Five v ∧ AskVP (fun b => w.heap.size ≤ b) w' x v
  | none => ∃ v t, e = .returned (.tuple #[v, .string t, .bool false]) ∧ Five v
/-- the same, the value named -/
def AskAtR (w : World) (o : Option (Ask × Bs)) (bv : Bool) (v : Value) (t : ByteArray) (w' : World) : Prop := match o with
  | some (x, r) => bv = true ∧ bts r = t ∧ AskVP (fun b => w.heap.size ≤ b) w' x v
  | none => bv = false
theorem AskAtQ.form {w w' : World} {o : Option (Ask × Bs)} {e : Ending} (h : AskAtQ w o e w') : Below w.heap.size w w' ∧ ∃ (bv : Bool) (x0 : Int) (x1 x2 : ByteArray) (x3 : Int) (xd : Option Addr) (xl xc : Nat) (t : ByteArray), e = .returned (.tuple #[.agg #[.int .i64 x0, .string x1, .string x2, .int .i64 x3, .slice xd xl xc], .string t, .bool bv]) ∧ AskAtR w o bv (.agg #[.int .i64 x0, .string x1, .string x2, .int .i64 x3, .slice xd xl xc]) t w' := by
  obtain ⟨hb, h⟩ := h
  cases o with
  | none =>
    obtain ⟨v, t, rfl, ⟨x0, x1, x2, x3, xd, xl, xc, rfl⟩⟩ := h
    exact ⟨hb, _, _, _, _, _, _, _, _, _, rfl, rfl⟩
  | some p =>
    obtain ⟨x, r⟩ := p
    obtain ⟨v, rfl, ⟨x0, x1, x2, x3, xd, xl, xc, rfl⟩, h1⟩ := h
    exact ⟨hb, _, _, _, _, _, _, _, _, _, rfl, rfl, rfl, h1⟩
theorem AskAtQ.mk' {w w' : World} {o : Option (Ask × Bs)} {bv : Bool} {x0 : Int} {x1 x2 : ByteArray} {x3 : Int} {xd : Option Addr} {xl xc : Nat} {t : ByteArray} (hb : Below w.heap.size w w') (h : AskAtR w o bv (.agg #[.int .i64 x0, .string x1, .string x2, .int .i64 x3, .slice xd xl xc]) t w') : AskAtQ w o (.returned (.tuple #[.agg #[.int .i64 x0, .string x1, .string x2, .int .i64 x3, .slice xd xl xc], .string t, .bool bv])) w' := by
  refine ⟨hb, ?_⟩
  cases o with
  | none =>
    obtain rfl := h
    exact ⟨_, _, rfl, ⟨_, _, _, _, _, _, _, rfl⟩⟩
  | some p =>
    obtain ⟨x, r⟩ := p
    obtain ⟨rfl, rfl, h2⟩ := h
    exact ⟨_, rfl, ⟨_, _, _, _, _, _, _, rfl⟩, h2⟩
/-- an ask that begins with a word -/
def elseR (A R : Bs) : Option (Ask × Bs) := match R with
  | 62 :: 61 :: t => match Nt.intOf (Ar.word t) with
    | some n => some (.mk 3 A [] n [], Ar.rest t)
    | none => none
  | 61 :: t => some (.mk 2 A (Ar.word t) 0 [], Ar.rest t)
  | _ => none
theorem askR_else {N : Nat} {s : Bs} (h0 : s ≠ []) (hs : ∀ c t, s = c :: t → Ar.sgn c = false) : Ar.askR (N + 1) s = elseR (Ar.word s) (Ar.rest s) := by
  rw [Ar.askR_word h0 hs]; rfl
theorem elseR_is (A t : Bs) : elseR A (61 :: t) = some (.mk 2 A (Ar.word t) 0 [], Ar.rest t) := rfl
theorem elseR_more (A t : Bs) : elseR A (62 :: 61 :: t) = match Nt.intOf (Ar.word t) with | some n => some (.mk 3 A [] n [], Ar.rest t) | none => none := rfl
theorem elseR_no {A R : Bs} (h1 : ∀ t, R ≠ 62 :: 61 :: t) (h2 : ∀ t, R ≠ 61 :: t) : elseR A R = none := by
  unfold elseR
  split
  · rename_i t; exact absurd rfl (h1 t)
  · rename_i t; exact absurd rfl (h2 t)
  · rfl
/-- behind the second of two asks -/
def secR (k : Int) (a : Ask) (o : Option (Ask × Bs)) : Option (Ask × Bs) := match o with
  | some (b, 41 :: r2) => some (.mk k [] [] 0 [a, b], r2)
  | _ => none
theorem secR_no {k : Int} {a b : Ask} {r : Bs} (h : ∀ t, r ≠ 41 :: t) : secR k a (some (b, r)) = none := by
  unfold secR
  split
  · rename_i e; injection e with e; injection e with e1 e2; exact absurd e2 (h _)
  · rfl
/-- behind the first of two asks -/
def fstR (N : Nat) (a : Ask) (r : Bs) : Option (Ask × Bs) := match r with
  | 124 :: r' => secR 6 a (Ar.askR N r')
  | 38 :: r' => secR 5 a (Ar.askR N r')
  | _ => none
theorem fstR_no {N : Nat} {a : Ask} {r : Bs} (h1 : ∀ t, r ≠ 124 :: t) (h2 : ∀ t, r ≠ 38 :: t) : fstR N a r = none := by
  unfold fstR
  split
  · rename_i t; exact absurd rfl (h1 t)
  · rename_i t; exact absurd rfl (h2 t)
  · rfl
theorem askR_nil (N : Nat) : Ar.askR (N + 1) [] = none := by rw [Ar.askR]
theorem askR_has (N : Nat) (t : Bs) : Ar.askR (N + 1) (63 :: t) = some (.mk 1 (Ar.word t) [] 0 [], Ar.rest t) := by rw [Ar.askR]
theorem askR_not (N : Nat) (t : Bs) : Ar.askR (N + 1) (33 :: t) = match Ar.askR N t with | none => none | some (y, r) => some (.mk 4 [] [] 0 [y], r) := by
  rw [Ar.askR]
  cases Ar.askR N t with
  | none => rfl
  | some p => rfl
theorem askR_two (N : Nat) (t : Bs) : Ar.askR (N + 1) (40 :: t) = match Ar.askR N t with | none => none | some (a, r) => fstR N a r := by
  rw [Ar.askR]
  cases Ar.askR N t with
  | none => rfl
  | some p => rfl
/-- five cells of a new block of the call's own: what lay there before stays -/
theorem leaf_at {B : Nat} {w W : World} {x : Ask} {r : Bs} {k n : Int} {a b : Bs} (hb : Below w.heap.size w W) (ha : a.length ≤ 9223372036854775807) (hb2 : b.length ≤ 9223372036854775807) : AskAtR w (some (.mk k a b n [], r)) true (.agg #[.int .i64 k, .string (bts a), .string (bts b), .int .i64 n, .slice none 0 0]) (bts r) W :=
  ⟨rfl, rfl, leaf_vp k a b n ha hb2⟩
/-- the block of one ask comes first, the five cells are written after -/
theorem tree_oneA {S c B : Nat} {W : World} {y : Ask} {x0 x3 : Int} {x1 x2 : ByteArray} {xd : Option Addr} {xl xc : Nat} {t' : TypeId} (hS : S ≤ W.heap.size) (hc : c < S) (hB : B ≤ S)
    (HX : AskVP (fun b => S ≤ b) W y (.agg #[.int .i64 x0, .string x1, .string x2, .int .i64 x3, .slice xd xl xc])) (v0 v1 v2 v3 v4 : Value) :
    AskVP (fun b => B ≤ b) (five (W.alloc (.cells #[.int .i64 x0, .string x1, .string x2, .int .i64 x3, .slice xd xl xc] t')) c v0 v1 v2 v3 v4) (.mk 4 [] [] 0 [y]) (.agg #[.int .i64 4, .string ⟨#[]⟩, .string ⟨#[]⟩, .int .i64 0, .slice (some ⟨W.heap.size, 0, none⟩) 1 1]) := by
  have hcell : ∀ i, (five (W.alloc (.cells #[.int .i64 x0, .string x1, .string x2, .int .i64 x3, .slice xd xl xc] t')) c v0 v1 v2 v3 v4).cell? ⟨W.heap.size, i, none⟩ = (#[.int .i64 x0, .string x1, .string x2, .int .i64 x3, .slice xd xl xc] : Array Value)[i]? := fun i => (cell_of_block (p := ⟨W.heap.size, i, none⟩) (five_heap _ _ _ _ _ _ _ _ (by show W.heap.size ≠ c; omega))).trans (cell_top _ _ _ _ _ rfl)
  have hold : ∀ b, b ≠ c → b < W.heap.size → (five (W.alloc (.cells #[.int .i64 x0, .string x1, .string x2, .int .i64 x3, .slice xd xl xc] t')) c v0 v1 v2 v3 v4).heap[b]? = W.heap[b]? := fun b h1 hb => (five_heap _ _ _ _ _ _ _ b h1).trans (Below.heap_alloc _ _ _ hb)
  rw [AskVP]
  refine ⟨_, _, _, rfl, rfl, Nat.le_refl _, by omega, by simp, by simp, fun _ => ⟨_, _, rfl, by rw [five_size]; simp, by show B ≤ W.heap.size; omega, ?_⟩⟩
  rw [AsksVP, AsksVP]
  refine ⟨⟨.agg #[.int .i64 x0, .string x1, .string x2, .int .i64 x3, .slice xd xl xc], ⟨_, _, _, _, _, rfl, (hcell _).trans rfl, (hcell _).trans rfl, (hcell _).trans rfl, (hcell _).trans rfl, (hcell _).trans rfl⟩, ?_⟩, trivial⟩
  exact AskVP.stays (fun b h => Nat.le_trans hB h) (by rw [five_size]; simp) (fun b h hlt => hold b (by omega) hlt) _ _ HX
end Go.Proofs.YtddcaabhbbdbpaaDoor
