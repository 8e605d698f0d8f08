/- A box of the call's own: its cells as a list; written cell by cell. -/
import Derived.Test.YtkemlckmfgacdaaGreatDoorJnP1
import Derived.Below
import Derived.Test.YtkemlckmfgacdaaGreatDoorJnP6
import Derived.Test.YtkemlckmfgacdaaGreatDoorJnP7
import Derived.Test.YtkemlckmfgacdaaGreatDoorJnP10
import Derived.Deep.AppendSrc
import Derived.Maps.AppendAt
import Derived.Shelf.Bytes.SlEqualAll
import Derived.Deep.CutBlock
import Derived.Deep.DeepCutAuto
import Derived.Deep.LoopGhost
namespace Go.Proofs.YtkemlckmfgacdaaGreatDoor
set_option maxRecDepth 20000
set_option maxHeartbeats 64000000
open Go.ChangeShapes Go.WideShapes Go.ChangeAt Go.RowKit
set_option linter.unusedVariables false
structure BoxV (c : Nat) (vs : List Value) (w : World) : Prop where
 lt : c < w.heap.size
 cell : ∀ i v, vs[i]? = some v → w.cell? ⟨c, i, none⟩ = some v
 fz : ∀ i, w.frozen? ⟨c, i, none⟩ = false
theorem cell_topV (W : World) (c : Array Value) (T : TypeId) (b i : Nat) (hb : b = W.heap.size) : (W.alloc (.cells c T)).cell? ⟨b, i, none⟩ = c[i]? := by
 subst hb
 simp
theorem frozen_topV (W : World) (c : Array Value) (T : TypeId) (b i : Nat) (hb : b = W.heap.size) : (W.alloc (.cells c T)).frozen? ⟨b, i, none⟩ = false := by
 subst hb
 have := heap_alloc_new W (.cells c T)
 unfold World.frozen?
 simp only [this]
 rfl
theorem BoxV.top {w : World} {t : TypeId} {c : Nat} (vs : List Value) (hc : c = w.heap.size) : BoxV c vs (w.alloc (.cells vs.toArray t)) :=
 ⟨by rw [hc]; simp, fun i v h => (cell_topV _ _ _ _ _ hc).trans (by simpa using h), fun i => frozen_topV _ _ _ _ _ hc⟩
theorem BoxV.below {c C : Nat} {vs : List Value} {w w' : World} (h : BoxV c vs w) (hb : Below C w w') (hC : c < C) : BoxV c vs w' :=
 ⟨Nat.lt_of_lt_of_le h.lt hb.size, fun i v hi => (hb.cell (p := ⟨c, i, none⟩) hC).trans (h.cell i v hi), fun i => (hb.frozen (p := ⟨c, i, none⟩) hC).trans (h.fz i)⟩
theorem BoxV.step {c : Nat} {vs : List Value} {w w' : World} (h : BoxV c vs w) (hb : Below w.heap.size w w') : BoxV c vs w' := h.below hb h.lt
theorem BoxV.other {c : Nat} {vs : List Value} {w : World} (h : BoxV c vs w) {a : Addr} (ha : a.block ≠ c) (u : Value) : BoxV c vs (w.setCell a u) :=
 ⟨by simpa using h.lt, fun i v hi => by rw [World.cell?_setCell_other _ _ _ _ (by intro e; exact ha (congrArg Addr.block e))]; exact h.cell i v hi, fun i => by rw [World.frozen?_setCell]; exact h.fz i⟩
theorem BoxV.set {c : Nat} {vs : List Value} {w : World} (h : BoxV c vs w) (i : Nat) (u : Value) : BoxV c (vs.set i u) (w.setCell ⟨c, i, none⟩ u) := by
 refine ⟨by simpa using h.lt, fun j v hj => ?_, fun j => by rw [World.frozen?_setCell]; exact h.fz j⟩
 by_cases e : j = i
 ·subst e
  have hl : j < vs.length := by
   have := (List.getElem?_eq_some_iff.1 hj).1
   simpa using this
  rw [List.getElem?_set_self hl] at hj
  injection hj with hj
  subst hj
  exact World.cell?_setCell_same _ _ _ (h.cell j _ (List.getElem?_eq_getElem hl))
 ·rw [List.getElem?_set_ne (fun e2 => e e2.symm)] at hj
  rw [World.cell?_setCell_other _ _ _ _ (by intro e2; exact e (congrArg Addr.off e2).symm)]
  exact h.cell j v hj
theorem BoxV.grown {c : Nat} {vs : List Value} {w w' : World} {row : Option Nat} (h : BoxV c vs w) (hg : w.grownBy w' row) (hr : some c ≠ row) : BoxV c vs w' := by
 have hbk := hg.block c h.lt hr
 exact ⟨Nat.lt_of_lt_of_le h.lt hg.size, fun i v hi => (World.cell?_of_block (a := ⟨c, i, none⟩) hbk).trans (h.cell i v hi), fun i => (World.frozen?_of_block (a := ⟨c, i, none⟩) hbk).trans (h.fz i)⟩
theorem BoxV.c15 {c : Nat} {v0 v1 v2 v3 v4 v5 v6 v7 v8 v9 v10 v11 v12 v13 v14 : Value} {w : World} (h : BoxV c [v0, v1, v2, v3, v4, v5, v6, v7, v8, v9, v10, v11, v12, v13, v14] w) : w.cell? ⟨c, 0, none⟩ = some v0 ∧ w.cell? ⟨c, 1, none⟩ = some v1 ∧ w.cell? ⟨c, 2, none⟩ = some v2 ∧ w.cell? ⟨c, 3, none⟩ = some v3 ∧ w.cell? ⟨c, 4, none⟩ = some v4 ∧ w.cell? ⟨c, 5, none⟩ = some v5 ∧ w.cell? ⟨c, 6, none⟩ = some v6 ∧ w.cell? ⟨c, 7, none⟩ = some v7 ∧ w.cell? ⟨c, 8, none⟩ = some v8 ∧ w.cell? ⟨c, 9, none⟩ = some v9 ∧ w.cell? ⟨c, 10, none⟩ = some v10 ∧ w.cell? ⟨c, 11, none⟩ = some v11 ∧ w.cell? ⟨c, 12, none⟩ = some v12 ∧ w.cell? ⟨c, 13, none⟩ = some v13 ∧ w.cell? ⟨c, 14, none⟩ = some v14 := ⟨h.cell 0 _ rfl, h.cell 1 _ rfl, h.cell 2 _ rfl, h.cell 3 _ rfl, h.cell 4 _ rfl, h.cell 5 _ rfl, h.cell 6 _ rfl, h.cell 7 _ rfl, h.cell 8 _ rfl, h.cell 9 _ rfl, h.cell 10 _ rfl, h.cell 11 _ rfl, h.cell 12 _ rfl, h.cell 13 _ rfl, h.cell 14 _ rfl⟩
theorem BoxV.f15 {c : Nat} {v0 v1 v2 v3 v4 v5 v6 v7 v8 v9 v10 v11 v12 v13 v14 : Value} {w : World} (h : BoxV c [v0, v1, v2, v3, v4, v5, v6, v7, v8, v9, v10, v11, v12, v13, v14] w) : w.frozen? ⟨c, 0, none⟩ = false ∧ w.frozen? ⟨c, 1, none⟩ = false ∧ w.frozen? ⟨c, 2, none⟩ = false ∧ w.frozen? ⟨c, 3, none⟩ = false ∧ w.frozen? ⟨c, 4, none⟩ = false ∧ w.frozen? ⟨c, 5, none⟩ = false ∧ w.frozen? ⟨c, 6, none⟩ = false ∧ w.frozen? ⟨c, 7, none⟩ = false ∧ w.frozen? ⟨c, 8, none⟩ = false ∧ w.frozen? ⟨c, 9, none⟩ = false ∧ w.frozen? ⟨c, 10, none⟩ = false ∧ w.frozen? ⟨c, 11, none⟩ = false ∧ w.frozen? ⟨c, 12, none⟩ = false ∧ w.frozen? ⟨c, 13, none⟩ = false ∧ w.frozen? ⟨c, 14, none⟩ = false := ⟨h.fz 0, h.fz 1, h.fz 2, h.fz 3, h.fz 4, h.fz 5, h.fz 6, h.fz 7, h.fz 8, h.fz 9, h.fz 10, h.fz 11, h.fz 12, h.fz 13, h.fz 14⟩
theorem BoxV.c11 {c : Nat} {v0 v1 v2 v3 v4 v5 v6 v7 v8 v9 v10 : Value} {w : World} (h : BoxV c [v0, v1, v2, v3, v4, v5, v6, v7, v8, v9, v10] w) : w.cell? ⟨c, 0, none⟩ = some v0 ∧ w.cell? ⟨c, 1, none⟩ = some v1 ∧ w.cell? ⟨c, 2, none⟩ = some v2 ∧ w.cell? ⟨c, 3, none⟩ = some v3 ∧ w.cell? ⟨c, 4, none⟩ = some v4 ∧ w.cell? ⟨c, 5, none⟩ = some v5 ∧ w.cell? ⟨c, 6, none⟩ = some v6 ∧ w.cell? ⟨c, 7, none⟩ = some v7 ∧ w.cell? ⟨c, 8, none⟩ = some v8 ∧ w.cell? ⟨c, 9, none⟩ = some v9 ∧ w.cell? ⟨c, 10, none⟩ = some v10 := ⟨h.cell 0 _ rfl, h.cell 1 _ rfl, h.cell 2 _ rfl, h.cell 3 _ rfl, h.cell 4 _ rfl, h.cell 5 _ rfl, h.cell 6 _ rfl, h.cell 7 _ rfl, h.cell 8 _ rfl, h.cell 9 _ rfl, h.cell 10 _ rfl⟩
theorem BoxV.f11 {c : Nat} {v0 v1 v2 v3 v4 v5 v6 v7 v8 v9 v10 : Value} {w : World} (h : BoxV c [v0, v1, v2, v3, v4, v5, v6, v7, v8, v9, v10] w) : w.frozen? ⟨c, 0, none⟩ = false ∧ w.frozen? ⟨c, 1, none⟩ = false ∧ w.frozen? ⟨c, 2, none⟩ = false ∧ w.frozen? ⟨c, 3, none⟩ = false ∧ w.frozen? ⟨c, 4, none⟩ = false ∧ w.frozen? ⟨c, 5, none⟩ = false ∧ w.frozen? ⟨c, 6, none⟩ = false ∧ w.frozen? ⟨c, 7, none⟩ = false ∧ w.frozen? ⟨c, 8, none⟩ = false ∧ w.frozen? ⟨c, 9, none⟩ = false ∧ w.frozen? ⟨c, 10, none⟩ = false := ⟨h.fz 0, h.fz 1, h.fz 2, h.fz 3, h.fz 4, h.fz 5, h.fz 6, h.fz 7, h.fz 8, h.fz 9, h.fz 10⟩
theorem BoxV.c5 {c : Nat} {v0 v1 v2 v3 v4 : Value} {w : World} (h : BoxV c [v0, v1, v2, v3, v4] w) : w.cell? ⟨c, 0, none⟩ = some v0 ∧ w.cell? ⟨c, 1, none⟩ = some v1 ∧ w.cell? ⟨c, 2, none⟩ = some v2 ∧ w.cell? ⟨c, 3, none⟩ = some v3 ∧ w.cell? ⟨c, 4, none⟩ = some v4 := ⟨h.cell 0 _ rfl, h.cell 1 _ rfl, h.cell 2 _ rfl, h.cell 3 _ rfl, h.cell 4 _ rfl⟩
theorem BoxV.f5 {c : Nat} {v0 v1 v2 v3 v4 : Value} {w : World} (h : BoxV c [v0, v1, v2, v3, v4] w) : w.frozen? ⟨c, 0, none⟩ = false ∧ w.frozen? ⟨c, 1, none⟩ = false ∧ w.frozen? ⟨c, 2, none⟩ = false ∧ w.frozen? ⟨c, 3, none⟩ = false ∧ w.frozen? ⟨c, 4, none⟩ = false := ⟨h.fz 0, h.fz 1, h.fz 2, h.fz 3, h.fz 4⟩
def puts (W : World) (c : Nat) : Nat → List Value → World
 | _, [] => W
 | i, v :: vs => puts (W.setCell ⟨c, i, none⟩ v) c (i + 1) vs
theorem puts_size (c : Nat) : ∀ (vs : List Value) (W : World) (i : Nat), (puts W c i vs).heap.size = W.heap.size
 | [], W, i => rfl
 | v :: vs, W, i => by rw [puts, puts_size c vs]; simp
theorem puts_heap (c : Nat) {b : Nat} (h : b ≠ c) : ∀ (vs : List Value) (W : World) (i : Nat), (puts W c i vs).heap[b]? = W.heap[b]?
 | [], W, i => rfl
 | v :: vs, W, i => by rw [puts, puts_heap c h vs, Below.heap_setCell _ _ _ _ h]
theorem puts_below {B : Nat} {w : World} (c : Nat) (hB : B ≤ c) : ∀ (vs : List Value) (W : World) (i : Nat), Below B w W → Below B w (puts W c i vs)
 | [], W, i, h => h
 | v :: vs, W, i, h => by rw [puts]; exact puts_below c hB vs _ _ (h.setCell (p := ⟨c, i, none⟩) hB v)
end Go.Proofs.YtkemlckmfgacdaaGreatDoor
namespace Go.Proofs.YtkemlckmfgacdaaGreatDoor
set_option maxRecDepth 20000
set_option maxHeartbeats 64000000
open Go.ChangeShapes Go.WideShapes Go.ChangeAt Go.RowKit
set_option linter.unusedVariables false
set_option linter.unusedSimpArgs false
open Tp Jm Ev
def evVal (k : Int) (u : ByteArray) (p a b c x0 : Int) (x1 x2 : ByteArray) (x3 : Int) (xd : Option Addr) (xl xc : Nat) (aa : Option Addr) (n ac : Nat) (N I : Int) (O : Bool) : Value := .agg #[.int .i64 k, .string u, .int .i64 p, .int .i64 a, .int .i64 b, .int .i64 c, .int .i64 x0, .string x1, .string x2, .int .i64 x3, .slice xd xl xc, .slice aa n ac, .int .i64 N, .int .i64 I, .bool O]
def EvV (w : World) (x : Evt) (v : Value) : Prop := ∃ (x0 : Int) (x1 x2 : ByteArray) (x3 : Int) (xd : Option Addr) (xl xc : Nat) (aa : Option Addr) (ac : Nat), v = evVal x.kind (bts x.job.user) x.job.prio x.job.a x.job.b x.job.c x0 x1 x2 x3 xd xl xc aa x.job.after.length ac x.n x.id x.ok ∧ JobP w x.job x0 x1 x2 x3 xd xl xc aa ac
theorem EvV.below {w w' : World} {x : Evt} {v : Value} (h : EvV w x v) (hb : Below w.heap.size w w') : EvV w' x v := by
 obtain ⟨x0, x1, x2, x3, xd, xl, xc, aa, ac, e, hp⟩ := h
 exact ⟨x0, x1, x2, x3, xd, xl, xc, aa, ac, e, hp.below hb⟩
theorem JobP.zero (w : World) : JobP w zJb 0 ⟨#[]⟩ ⟨#[]⟩ 0 none 0 0 none 0 := ⟨AskVP.toV (p := fun _ => True) _ _ (leaf_vp 0 [] [] 0 (by simp) (by simp)), Vals.nil _ _, by simp [zJb], by simp [zJb], by omega⟩
theorem JobP.toV {w : World} {j : Jb} {x0 : Int} {x1 x2 : ByteArray} {x3 : Int} {xd : Option Addr} {xl xc : Nat} {aa : Option Addr} {ac : Nat} (h : JobP w j x0 x1 x2 x3 xd xl xc aa ac) : JobV w j (jobVal (bts j.user) j.prio j.a j.b j.c x0 x1 x2 x3 xd xl xc aa j.after.length ac) := ⟨_, _, _, _, _, _, _, _, _, rfl, h⟩
def u8s (s : Bs) : List Value := s.map fun c => .int .u8 (c.toNat : Int)
theorem u8s_len (s : Bs) : (u8s s).length = s.length := by simp [u8s]
theorem u8s_app (s t : Bs) : u8s (s ++ t) = u8s s ++ u8s t := by simp [u8s]
theorem u8s_at {s : Bs} {i : Nat} {c : UInt8} (h : s[i]? = some c) : (u8s s)[i]? = some (.int .u8 (c.toNat : Int)) := by simp [u8s, h]
theorem u8s_one (s : Bs) : ∀ u ∈ u8s s, u.oneCell' = true := by
 intro u hu
 obtain ⟨c, _, rfl⟩ := List.mem_map.1 hu
 rfl
def nums8 (s : Bs) : List Int := s.map fun c => (c.toNat : Int)
theorem strOf_nums8 (s : Bs) : strOfNums (nums8 s) = bts s := by
 unfold strOfNums nums8 bts
 congr 1
 rw [List.map_map]
 congr 1
 refine (List.map_congr_left (g := id) fun c _ => ?_).trans (List.map_id s)
 apply UInt8.toNat_inj.1
 simp
structure BytA (w : World) (a : Option Addr) (s : Bs) : Prop where
 vals : Vals w a (u8s s)
theorem BytA.below {w w' : World} {a : Option Addr} {s : Bs} (h : BytA w a s) (hb : Below w.heap.size w w') : BytA w' a s := ⟨h.vals.below hb lr⟩
theorem BytA.bytesIn {w : World} {a : Option Addr} {s : Bs} (h : BytA w a s) {n : Nat} (hn : s.length = n) : Lib.BytesIn w a n (nums8 s) := by
 subst hn
 by_cases h0 : 0 < s.length
 ·obtain ⟨b, off, rfl, hb, hc⟩ := h.vals (by rw [u8s_len]; exact h0)
  refine Lib.BytesIn.of_cells fun i hi => ?_
  have e : (⟨b, off, none⟩ : Addr).add i = ⟨b, off + i, none⟩ := by unfold Addr.add; split <;> simp_all
  rw [e, hc i _ (u8s_at (List.getElem?_eq_getElem hi))]
  simp [nums8, List.getD, hi]
 ·have : s = [] := List.eq_nil_of_length_eq_zero (by omega)
  subst this
  exact Lib.BytesIn.nil _ _ _
theorem BytA.drop {w : World} {b off : Nat} {s : Bs} (h : BytA w (some ⟨b, off, none⟩) s) (i : Nat) : BytA w (some ⟨b, off + i, none⟩) (s.drop i) := ⟨fun hl => by
 rw [u8s_len] at hl
 obtain ⟨b', off', e, hb, hc⟩ := h.vals (by rw [u8s_len]; simp at hl; omega)
 injection e with e
 injection e with e1 e2
 subst e1 e2
 refine ⟨b, off + i, rfl, hb, fun k v hv => ?_⟩
 rw [Nat.add_assoc]
 refine hc (i + k) v ?_
 unfold u8s at hv ⊢
 rw [List.getElem?_map] at hv ⊢
 rw [List.getElem?_drop] at hv
 exact hv⟩
theorem BytA.take {w : World} {a : Option Addr} {s : Bs} (h : BytA w a s) (i : Nat) : BytA w a (s.take i) := ⟨fun hl => by
 rw [u8s_len] at hl
 obtain ⟨b, off, e, hb, hc⟩ := h.vals (by rw [u8s_len]; simp at hl; omega)
 refine ⟨b, off, e, hb, fun k v hv => ?_⟩
 refine hc k v ?_
 unfold u8s at hv ⊢
 rw [List.getElem?_map] at hv ⊢
 rw [List.getElem?_take] at hv
 split at hv
 ·exact hv
 ·cases hv⟩
theorem BytA.cell {w : World} {a : Option Addr} {s : Bs} (h : BytA w a s) {i : Nat} {c : UInt8} (hi : s[i]? = some c) : ∃ b off, a = some ⟨b, off, none⟩ ∧ b < w.heap.size ∧ ∀ (k : Nat) (d : UInt8), s[k]? = some d → w.cell? ⟨b, off + k, none⟩ = some (.int .u8 (d.toNat : Int)) := by
 obtain ⟨b, off, e, hb, hc⟩ := h.vals (by rw [u8s_len]; have := (List.getElem?_eq_some_iff.1 hi).1; omega)
 exact ⟨b, off, e, hb, fun k d hk => hc k _ (u8s_at hk)⟩
theorem BytA.nil (w : World) (a : Option Addr) : BytA w a [] := ⟨Vals.nil _ _⟩
theorem BytA.text {w : World} {a : Option Addr} {s : Bs} (h : BytA w a s) {n : Nat} (hn : s.length = n) (c : Nat) : (convert 41 9 (.slice a n c)).run Tryz.prog w = .ok (.string (bts s)) w := by
 have := (h.bytesIn hn).convert (P := Tryz.prog) (by simp [nums8, hn]) c 41 5 9 Tryz.underlying41 Tryz.underlying5 Tryz.underlying9
 rwa [strOf_nums8] at this
def OwnB (w : World) (H : Nat) (v : Value) (s : Bs) : Prop := w.ownsRow H 5 1 v s.length (u8s s)
theorem OwnB.form {w : World} {H : Nat} {v : Value} {s : Bs} (h : OwnB w H v s) : ∃ a c, v = .slice a s.length c ∧ s.length ≤ c ∧ c ≤ 9223372036854775807 ∧ BytA w a s ∧ (a = none ∨ ∃ g, a = some ⟨g, 0, none⟩ ∧ H ≤ g ∧ g < w.heap.size) := by
 have hml : maxLen = 9223372036854775807 := rfl
 have hv := IsVals.own h
 rcases h.2 with ⟨rfl, h0⟩ | ⟨g, cap, cur, rfl, hbg, hg, h1, h2, _, _⟩
 ·refine ⟨none, 0, by rw [h0], by omega, by omega, ?_, .inl rfl⟩
  have : s = [] := List.eq_nil_of_length_eq_zero h0
  subst this
  exact BytA.nil _ _
 ·refine ⟨_, cap, rfl, h1, by omega, ?_, .inr ⟨g, rfl, hbg, (Array.getElem?_eq_some_iff.1 hg).1⟩⟩
  obtain ⟨a, cap', e, hv2⟩ := hv
  injection e with e1 e2 e3
  subst e1
  exact ⟨hv2⟩
theorem OwnB.below {w w' : World} {H : Nat} {v : Value} {s : Bs} (h : OwnB w H v s) (hb : Below w.heap.size w w') : OwnB w' H v s := ownsRow_below h hb
theorem OwnB.low {w : World} {H H' : Nat} {v : Value} {s : Bs} (h : OwnB w H v s) (hh : H' ≤ H) : OwnB w H' v s := ownsRow_low h hh
theorem OwnB.nil (w : World) (H : Nat) : OwnB w H (.slice none 0 0) [] := World.ownsRow_nil _ _ _ _
theorem info8 : (Tryz.prog.info? 5).map (fun i => (i.zero, i.size, i.bytes)) = some (some (.int .u8 0), 1, 1) := by kernel_rfl
theorem run_append_bytes {w : World} {H : Nat} {v : Value} {s : Bs} (hown : OwnB w H v s) {tx ty : TypeId} {x : Value} {m : Nat} {t : Bs} (hs : Src Tryz.prog 1 tx x m (u8s t) w) (hm : t.length = m) (hlen : s.length + m ≤ 1000000000000) (hH : H ≤ w.heap.size) :
  ∃ v' w', (Builtin.append_ #[41, tx] ty #[v, x]).run Tryz.prog w = .ok v' w' ∧ OwnB w' H v' (s ++ t) ∧ w.grownBy w' v.ownBlock ∧ (v'.ownBlock = v.ownBlock ∨ v'.ownBlock = some w.heap.size) := by
 obtain ⟨i, hi, hz, hsz, hby⟩ := info_parts info8
 have hml : maxLen = 9223372036854775807 := rfl
 have hl : (u8s t).length = m := by rw [u8s_len, hm]
 have hle : (s ++ t).length = s.length + m := by rw [List.length_append, hm]
 have grown : ∀ (old : Nat), old < s.length + m → ∀ (row : Option Nat),
   OwnB (w.drew.alloc (.cells ((u8s s ++ u8s t).toArray ++ Builtin.zeroCells (Value.int .u8 0).cells (grownCap w (s.length + m) old 5 - (s.length + m))) 5)) H (.slice (some ⟨w.heap.size, 0, none⟩) (s.length + m) (grownCap w (s.length + m) old 5)) (s ++ t) ∧
   w.grownBy (w.drew.alloc (.cells ((u8s s ++ u8s t).toArray ++ Builtin.zeroCells (Value.int .u8 0).cells (grownCap w (s.length + m) old 5 - (s.length + m))) 5)) row := by
  intro old ho row
  have hge := grownCap_ge w (s.length + m) old 5
  have hcm : grownCap w (s.length + m) old 5 ≤ maxLen := grownCap_le_maxLen w (s.length + m) old 5 (by rw [hml]; omega)
  refine ⟨?_, ⟨rfl, rfl, rfl, by simp, fun k hk _ => Below.heap_alloc w.drew _ k hk⟩⟩
  unfold OwnB
  rw [hle, u8s_app]
  refine ⟨by rw [List.length_append, u8s_len, u8s_len, hm]; simp, .inr ⟨w.heap.size, _, _, rfl, hH, heap_alloc_new w.drew _, hge, hcm, ?_, ?_⟩⟩
  ·simp only [Array.size_append, List.size_toArray, size_zeroCells, List.length_append, u8s_len, hm, show (Value.int IntKind.u8 0).cells.size = 1 from rfl]
   omega
  ·simp only [Array.toList_append]
   have e : (s.length + m) * 1 = (u8s s ++ u8s t).length := by rw [List.length_append, u8s_len, u8s_len, hm]; omega
   rw [e]
   exact List.take_left
 rcases hown.2 with ⟨rfl, h0⟩ | ⟨g, cap, cur, rfl, hbg, hg, hnc, hcm, hcs, htake⟩
 ·have hs0 : s = [] := List.eq_nil_of_length_eq_zero h0
  subst hs0
  by_cases hm0 : m = 0
  ·subst hm0
   have ht0 : t = [] := List.eq_nil_of_length_eq_zero hm
   subst ht0
   refine ⟨.slice none 0 0, w, ?_, OwnB.nil _ _, ⟨rfl, rfl, rfl, Nat.le_refl _, fun _ _ _ => rfl⟩, .inl rfl⟩
   have hc := hs.cells
   rcases hs.kind with ⟨e', hk⟩ | hk <;> simp [Builtin.append_, run_underlying Tryz.underlying41, run_underlying hk, sizeOf, typeInfo, hi, hs.len, hsz, hc, u8s]
  ·have hr := run_append_grow_src (P := Tryz.prog) w 41 tx ty 5 i (.int .u8 0) Tryz.underlying41 hi hz none 0 0 [] (by simp [Builtin.firstCells, loadCells, loadCellsFrom]) x m (u8s t) (by rw [hsz]; exact hs) (by omega) (by omega) (growslice_fits (by omega) (by rw [hby]; omega))
   have hgr := grown 0 (by simp; omega) (Value.ownBlock (.slice none 0 0))
   simp only [List.length_nil, Nat.zero_add, List.nil_append, u8s, List.map_nil] at hgr hr ⊢
   exact ⟨_, _, hr, hgr.1, hgr.2, .inr rfl⟩
 ·by_cases hroom : s.length + m ≤ cap
  ·have hcs1 : cur.size = cap := by omega
   have hst := run_storeCells_at Tryz.prog g (s.length * 1) 5 (u8s t) 0 cur w hg (by rw [hl]; omega) (u8s_one t)
   simp only [Nat.add_zero, Nat.mul_one] at hst
   have htake1 : cur.toList.take s.length = u8s s := by rw [← htake, Nat.mul_one]
   have hr : (Builtin.append_ #[41, tx] ty #[.slice (some ⟨g, 0, none⟩) s.length cap, x]).run Tryz.prog w = .ok (.slice (some ⟨g, 0, none⟩) (s.length + m) cap) (w.setRow g (cur.toList.take s.length ++ u8s t ++ cur.toList.drop (s.length + (u8s t).length)).toArray) := by
    rcases hs.kind with ⟨e', hk⟩ | hk <;> simp [Builtin.append_, run_underlying Tryz.underlying41, run_underlying hk, sizeOf, typeInfo, hi, hsz, hs.len, hroom, hs.cells, Addr.add_lit, hst]
   refine ⟨_, _, hr, ?_, ⟨rfl, rfl, rfl, by simp, fun k _ hk => setRow_other w g k _ (fun e => hk (by simp [Value.ownBlock, e]))⟩, .inl rfl⟩
   unfold OwnB
   rw [hle, u8s_app]
   refine ⟨by rw [List.length_append, u8s_len, u8s_len, hm]; omega, .inr ⟨g, cap, _, rfl, hbg, setRow_heap w g cur _ _ _ hg, hroom, hcm, ?_, ?_⟩⟩
   ·simp only [List.size_toArray, List.length_append, List.length_take, List.length_drop, Array.length_toList, hl]
    omega
   ·rw [htake1]
    have e : (s.length + m) * 1 = (u8s s ++ u8s t).length := by rw [List.length_append, u8s_len, u8s_len, hm]; omega
    rw [e]
    exact List.take_left
  ·have hr := run_append_grow_src (P := Tryz.prog) w 41 tx ty 5 i (.int .u8 0) Tryz.underlying41 hi hz (some ⟨g, 0, none⟩) s.length cap (u8s s) (run_firstCells_some (P := Tryz.prog) w.drew i.size s.length ⟨g, 0, none⟩ s.length cap (u8s s) (by rw [hsz, u8s_len]; omega) (by
     have := hown.cells (g := g) rfl
     simpa using this)) x m (u8s t) (by rw [hsz]; exact hs) (by omega) (by omega) (growslice_fits (by omega) (by rw [hby]; omega))
   have hgr := grown cap (by omega) (Value.ownBlock (.slice (some ⟨g, 0, none⟩) s.length cap))
   exact ⟨_, _, hr, hgr.1, hgr.2, .inr rfl⟩
end Go.Proofs.YtkemlckmfgacdaaGreatDoor
namespace Go.Proofs.YtkemlckmfgacdaaGreatDoor
set_option maxRecDepth 20000
set_option maxHeartbeats 64000000
open Go.ChangeShapes Go.WideShapes Go.ChangeAt Go.RowKit
set_option linter.unusedVariables false
set_option linter.unusedSimpArgs false
open Tp Jm Ev
theorem OwnB.ge {w : World} {H : Nat} {v : Value} {s : Bs} (h : OwnB w H v s) : ∀ k, v.ownBlock = some k → H ≤ k := ownBlock_ge h lr
theorem wpList_append_b {w : World} {ops : Array Oper} {rest : List Oper} {o : Oper} {a : Act} {Q : Exit → Act → World → Prop} (hgd : o.guard = none) (s x : Operand) (tx : TypeId)
  (ho : o.op = .call { callee := .builtin .append, args := #[s, x], argTypes := #[41, tx] })
  {H : Nat} {v : Value} {S : Bs} (hs : a.eval s = v) (hown : OwnB w H v S) {xv : Value} {m : Nat} {t : Bs} (hx : a.eval x = xv) (hsrc : Src Tryz.prog 1 tx xv m (u8s t) w) (hm : t.length = m) (hlen : S.length + m ≤ 1000000000000) (hH : H ≤ w.heap.size)
  (h : ∀ v' w', OwnB w' H v' (S ++ t) → Below H w w' → wpList Tryz.prog ops Q rest (a.put o.dst v') w') : wpList Tryz.prog ops Q (o :: rest) a w :=
 wpList_plain hgd fun K hK => by
  obtain ⟨v', w', hr, h2, h3, h4⟩ := run_append_bytes (ty := o.type) hown hsrc hm hlen hH
  unfold Oper.wp execOp
  simp only [ho, resolve, invoke, builtin, Sem.run_bind, Sem.run_pure, Result.andThen_ok, List.map_toArray, List.map_cons, List.map_nil, hs, hx, hr]
  exact hK _ _ (h v' w' h2 ((Below.refl H w).grown h3 hH hown.ge))
theorem src_one {W : World} {g : Nat} (hg : W.heap.size = g) (c : UInt8) : Src Tryz.prog 1 41 (.slice (some ⟨g, 0, none⟩) 1 1) 1 (u8s [c]) (W.alloc (.cells #[.int .u8 (c.toNat : Int)] 5)) := by
 subst hg
 exact Src.ofSlice _ (Tryz.underlying41) _ 1 1 (u8s [c]) rfl (cell_one_new W _ _) (u8s_one _)
theorem src_text (w : World) (s : Bs) {n : Nat} (hn : s.length = n) : Src Tryz.prog 1 9 (.string (bts s)) n (u8s s) w := by
 subst hn
 have h := Src.ofString (P := Tryz.prog) w Tryz.underlying9 (bts s)
 rw [bts_size] at h
 exact h
theorem src_row {w : World} {a : Option Addr} {s : Bs} (h : BytA w a s) {n c : Nat} (hn : s.length = n) : Src Tryz.prog 1 41 (.slice a n c) n (u8s s) w := by
 subst hn
 by_cases hl : s.length = 0
 ·have := List.eq_nil_of_length_eq_zero hl
  subst this
  cases a with
  | none => exact Src.ofNil _ Tryz.underlying41 c
  | some a => exact Src.ofSlice _ Tryz.underlying41 a 0 c [] rfl (fun j u hu => by cases hu) (fun u hu => by cases hu)
 ·obtain ⟨b, off, rfl, hb, hc⟩ := h.vals (by rw [u8s_len]; omega)
  refine Src.ofSlice _ Tryz.underlying41 _ _ c (u8s s) (by rw [u8s_len]; omega) (fun j u hu => ?_) (u8s_one _)
  have e : (⟨b, off, none⟩ : Addr).add j = ⟨b, off + j, none⟩ := by unfold Addr.add; split <;> simp_all
  rw [e]
  exact hc j u hu
theorem src_own {w : World} {H : Nat} {v : Value} {s : Bs} (h : OwnB w H v s) {n : Nat} (hn : s.length = n) : Src Tryz.prog 1 41 v n (u8s s) w := by
 obtain ⟨a, c, rfl, _, _, hb, _⟩ := h.form
 rw [hn]
 exact src_row hb hn
theorem OwnB.one {W : World} {g H : Nat} (hg : W.heap.size = g) (hH : H ≤ g) (c : UInt8) : OwnB (W.alloc (.cells #[.int .u8 (c.toNat : Int)] 5)) H (.slice (some ⟨g, 0, none⟩) 1 1) [c] := by
 subst hg
 exact ⟨rfl, .inr ⟨_, 1, _, rfl, hH, heap_alloc_new W _, Nat.le_refl _, by decide, rfl, rfl⟩⟩
theorem OwnB.alloc {w : World} {H : Nat} {v : Value} {s : Bs} (h : OwnB w H v s) (o : Obj) : OwnB (w.alloc o) H v s := World.ownsRow.alloc h o
theorem be_step {N k m : Nat} {hi : Bs} (h : hi ++ be N (k + 1) = be N m) : (hi ++ [UInt8.ofNat (N / 256 ^ k % 256)]) ++ be N k = be N m := by
 rw [List.append_assoc]
 exact h
theorem be_fits {N g m : Nat} {hi : Bs} (h : hi ++ be N g = be N m) : g ≤ m := by
 have e := congrArg List.length h
 rw [List.length_append, be_len, be_len] at e
 omega
theorem byte_of (N q : Nat) : (N : Int) / 2 ^ (8 * q) % 256 = ((UInt8.ofNat (N / 256 ^ q % 256)).toNat : Int) := by
 have e : (2 : Nat) ^ (8 * q) = 256 ^ q := by rw [Nat.pow_mul]
 have e2 : (UInt8.ofNat (N / 256 ^ q % 256)).toNat = N / 256 ^ q % 256 := by simp
 rw [e2, ← e]
 simp
theorem number_any (N m : Nat) (v : Value) (s : Bs) (H : Nat) (w : World) (hm : m ≤ 8) (hN : N ≤ 1000000000) (hs : s.length ≤ 100000) (hv : OwnB w H v s) (hH : H ≤ w.heap.size) : Calls Tryz.prog 50 #[v, .int .i64 (N : Int), .int .i64 (m : Int)] w fun e w' => ∃ v', e = .returned v' ∧ OwnB w' H v' (s ++ be N m) ∧ Below H w w' := by
 have HV := hid hv
 have HH := hid hH
 clear hv
 go_enter Tryz.func50, Tryz.ntmps50
 have hw : IntKind.i64.wrap ((m : Int) - 1) = (m : Int) - 1 := IntWalk.i64_in _ (by omega)
 go_wp2_with fail
 clear hw
 go_loopg [2, 0] m (fun g x y wr => ∃ hi, x = .int .i64 ((g : Int) - 1) ∧ Hid (hi ++ be N g = be N m) ∧ Hid (OwnB wr H y (s ++ hi)) ∧ Hid (Below H w wr))
 case atStart => exact ⟨[], rfl, hid rfl, hid (by rw [List.append_nil]; exact HV.out), hid (Below.refl _ _)⟩
 case round =>
  obtain ⟨hi, rfl, HI, HO, HB⟩ := hrel
  have HH' : Hid (H ≤ wr.heap.size) := hid (Nat.le_trans HH.out HB.out.size)
  by_cases hg : 0 < gk
  ·obtain ⟨q, hq⟩ : ∃ q, gk = q + 1 := ⟨gk - 1, by omega⟩
   have e1 : (gk : Int) - 1 = (q : Int) := by omega
   have HQ := hid hq
   have hq0 : (0 : Int) ≤ (q : Int) := by omega
   have hqm : q < 8 := by have := be_fits HI.out; omega
   have hq8 : (q : Int) < 8 := by omega
   have HL : Hid ((s ++ hi).length ≤ 200000) := hid (by have := be_fits HI.out; have e := congrArg List.length HI.out; rw [List.length_append, be_len, be_len] at e; rw [List.length_append]; omega)
   rw [e1]
   clear hq e1
   have hw8 : IntKind.i64.wrap (8 * (q : Int)) = 8 * (q : Int) := IntWalk.i64_in _ (by omega)
   obtain ⟨c, hc⟩ : ∃ c, UInt8.ofNat (N / 256 ^ q % 256) = c := ⟨_, rfl⟩
   have hcx : (N : Int) / 2 ^ (8 * q) % 256 = (c.toNat : Int) := by rw [← hc]; exact byte_of N q
   have HC := hid hc
   clear hc
   have hw1 : IntKind.i64.wrap ((q : Int) - 1) = (q : Int) - 1 := IntWalk.i64_in _ (by omega)
   go_wp2_with (at_builtin; refine wpList_append_b (by rfl) _ _ 41 (by rfl) (H := H) (S := s ++ hi) rfl (HO.out.alloc _) (by rfl) (src_one rfl c) rfl (by have := HL.out; omega) (by simp; exact Nat.le_succ_of_le HH'.out) ?_; intro v' w1 hown hbw; have HO1 := hid hown; have HB1 : Hid (Below H w w1) := hid ((HB.out.alloc HH'.out _).trans hbw); clear hown hbw)
   go_roundg q
   case measure => (have := HQ.out; omega)
   case rel => exact ⟨hi ++ [c], rfl, hid (by rw [← HC.out]; exact be_step (by rw [← HQ.out]; exact HI.out)), hid (by rw [← List.append_assoc]; exact HO1.out), HB1⟩
  ·obtain rfl : gk = 0 := by omega
   have HF : Hid (hi = be N m) := hid (by rw [← HI.out]; simp [be])
   have hneg : ¬ (0 : Int) ≤ ((0 : Nat) : Int) - 1 := by omega
   go_wp2_with fail
   go_ret
   exact ⟨u0, rfl, by rw [← HF.out]; exact HO.out, HB.out⟩
theorem bytesOf_any (N m : Nat) (w : World) (hm : m ≤ 8) (hN : N ≤ 18446744073709551615) : Calls Tryz.prog 52 #[.int .u64 (N : Int), .int .i64 (m : Int)] w fun e w' => ∃ v', e = .returned v' ∧ OwnB w' w.heap.size v' (be N m) ∧ Below w.heap.size w w' := by
 obtain ⟨H, hH⟩ : ∃ H, w.heap.size = H := ⟨_, rfl⟩
 have HH := hid hH
 have HN := hid hN
 rw [hH]
 clear hH hN
 go_enter Tryz.func52, Tryz.ntmps52
 go_wp2_with fail
 go_loopg [0, 5, 7] m (fun g x y z wr => ∃ k M : Nat, k + g = m ∧ x = .int .u64 (M : Int) ∧ z = .int .i64 (k : Int) ∧ Hid (M = N / 256 ^ k) ∧ Hid (M ≤ 18446744073709551615) ∧ Hid (OwnB wr H y (be N k)) ∧ Hid (Below H w wr))
 case atStart => exact ⟨0, N, by omega, rfl, rfl, hid (by simp), hid HN.out, hid (OwnB.nil _ _), hid (Below.refl _ _)⟩
 case round =>
  obtain ⟨k, M, hk, rfl, rfl, HM, HMN, HO, HB⟩ := hrel
  have HH' : Hid (H ≤ wr.heap.size) := hid (by rw [← HH.out]; exact HB.out.size)
  have HK := hid hk
  by_cases hkm : k < m
  ·have h1 : (k : Int) < (m : Int) := by omega
   have hM0 : (0 : Int) ≤ (M : Int) := by omega
   obtain ⟨c, hc⟩ : ∃ c, UInt8.ofNat (M % 256) = c := ⟨_, rfl⟩
   have hcx : (M : Int) % 256 = (c.toNat : Int) := by rw [← hc]; simp
   have HC := hid hc
   clear hk hc
   have hw1 : IntKind.i64.wrap ((k : Int) + 1) = ((k + 1 : Nat) : Int) := IntWalk.i64_in _ (by omega)
   go_wp2_with (at_builtin; go_loud (refine wpList_append_b (by rfl) (.tmp 12) (.tmp 13) 41 (by rfl) (H := H) (S := [c]) (v := .slice (some ⟨wr.heap.size, 0, none⟩) 1 1) (xv := u5) (by rfl) (OwnB.one rfl HH'.out c) (by rfl) (src_own (HO.out.alloc _) (be_len N k)) (be_len N k) (by simp; omega) (by simp; exact Nat.le_succ_of_le HH'.out) ?_; intro v' w1 hown hbw; have HO1 : Hid (OwnB w1 H v' (be N (k + 1))) := hid (by rw [be, ← HM.out, HC.out]; exact hown); have HB1 : Hid (Below H w w1) := hid ((HB.out.alloc HH'.out _).trans hbw); clear hown hbw))
   go_roundg (m - (k + 1))
   case measure => (have := HK.out; omega)
   case rel => exact ⟨k + 1, M / 256, by have := HK.out; omega, by simp; exact IntWalk.u64_in _ (by have := HMN.out; omega), by simp, hid (by rw [HM.out, Nat.div_div_eq_div_mul, Nat.pow_succ]), hid (by have := HMN.out; omega), HO1, HB1⟩
  ·obtain rfl : k = m := by omega
   have h1 : ¬ (k : Int) < (k : Int) := by omega
   clear hk
   go_wp2_with fail
   go_ret
   exact ⟨u5, rfl, HO.out, HB.out⟩
end Go.Proofs.YtkemlckmfgacdaaGreatDoor
