/- A job as a value. -/
import Derived.Test.YtkemlckmfgacdaaGreatDoorJnP5
import Derived.Test.YtkemlckmfgacdaaGreatDoorJnP6
namespace Go.Proofs.YtkemlckmfgacdaaGreatDoor
set_option maxRecDepth 20000
set_option maxHeartbeats 64000000
open Go.ChangeShapes Go.WideShapes Go.ChangeAt Go.RowKit
set_option linter.unusedVariables false
open Tp Jm
def ints (l : List Int) : List Value := l.map fun n => .int .i64 n
theorem ints_len (l : List Int) : (ints l).length = l.length := by simp [ints]
theorem ints_at {l : List Int} {i : Nat} {n : Int} (h : l[i]? = some n) : (ints l)[i]? = some (.int .i64 n) := by simp [ints, h]
theorem ints_push (l : List Int) (n : Int) : ints (l ++ [n]) = ints l ++ [.int .i64 n] := by simp [ints]
structure JobP (w : World) (j : Jb) (x0 : Int) (x1 x2 : ByteArray) (x3 : Int) (xd : Option Addr) (xl xc : Nat) (aa : Option Addr) (ac : Nat) : Prop where
 ask : AskV w j.ask (.agg #[.int .i64 x0, .string x1, .string x2, .int .i64 x3, .slice xd xl xc])
 aft : Vals w aa (ints j.after)
 user : j.user.length ≤ 1099511627776
 len : j.after.length ≤ ac
 cap : ac ≤ 9223372036854775807
def jobVal (u : ByteArray) (p a b c x0 : Int) (x1 x2 : ByteArray) (x3 : Int) (xd : Option Addr) (xl xc : Nat) (aa : Option Addr) (n ac : Nat) : Value := .agg #[.string u, .int .i64 p, .int .i64 a, .int .i64 b, .int .i64 c, .int .i64 x0, .string x1, .string x2, .int .i64 x3, .slice xd xl xc, .slice aa n ac]
def JobV (w : World) (j : Jb) (v : Value) : Prop := ∃ (x0 : Int) (x1 x2 : ByteArray) (x3 : Int) (xd : Option Addr) (xl xc : Nat) (aa : Option Addr) (ac : Nat), v = jobVal (bts j.user) j.prio j.a j.b j.c x0 x1 x2 x3 xd xl xc aa j.after.length ac ∧ JobP w j x0 x1 x2 x3 xd xl xc aa ac
theorem JobP.below {w w' : World} {j : Jb} {x0 : Int} {x1 x2 : ByteArray} {x3 : Int} {xd : Option Addr} {xl xc : Nat} {aa : Option Addr} {ac : Nat} (h : JobP w j x0 x1 x2 x3 xd xl xc aa ac) (hb : Below w.heap.size w w') : JobP w' j x0 x1 x2 x3 xd xl xc aa ac :=
 ⟨AskV.below hb _ _ h.ask, h.aft.below hb lr, h.user, h.len, h.cap⟩
theorem JobV.below {w w' : World} {j : Jb} {v : Value} (h : JobV w j v) (hb : Below w.heap.size w w') : JobV w' j v := by
 obtain ⟨x0, x1, x2, x3, xd, xl, xc, aa, ac, e, hp⟩ := h
 exact ⟨x0, x1, x2, x3, xd, xl, xc, aa, ac, e, hp.below hb⟩
theorem aft_cell {w : World} {aa : Option Addr} {l : List Int} (h : Vals w aa (ints l)) {k : Nat} {n : Int} (hk : l[k]? = some n) : ∃ b off, aa = some ⟨b, off, none⟩ ∧ b < w.heap.size ∧ ∀ (i : Nat) (m : Int), l[i]? = some m → w.cell? ⟨b, off + i, none⟩ = some (.int .i64 m) := by
 have hl : 0 < (ints l).length := by rw [ints_len]; have := (List.getElem?_eq_some_iff.1 hk).1; omega
 obtain ⟨b, off, e1, e2, e3⟩ := h hl
 exact ⟨b, off, e1, e2, fun i m hi => e3 i _ (ints_at hi)⟩
theorem aftE_cons (last n : Int) (l : List Int) : aftE last (n :: l) = if n < 1 ∨ 60 < n then 4 else if n ≤ last then 6 else aftE n l := rfl
end Go.Proofs.YtkemlckmfgacdaaGreatDoor
