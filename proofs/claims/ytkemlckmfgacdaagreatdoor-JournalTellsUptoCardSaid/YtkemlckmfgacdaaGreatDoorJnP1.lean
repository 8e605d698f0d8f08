/- Rows that a call makes and grows: what stays of them, how they read, an append of one thing. -/
import Derived.Test.YtkemlckmfgacdaaGreatDoorJnP0
import Derived.Deep.AppendLies
import Derived.Deep.OwnRows
import Derived.OwnWalk
namespace Go.Proofs.YtkemlckmfgacdaaGreatDoor
set_option maxRecDepth 20000
set_option maxHeartbeats 64000000
open Go.ChangeShapes Go.WideShapes Go.ChangeAt Go.RowKit
set_option linter.unusedVariables false
def Vals (w : World) (a : Option Addr) (xs : List Value) : Prop := 0 < xs.length → ∃ b off, a = some ⟨b, off, none⟩ ∧ b < w.heap.size ∧ ∀ i v, xs[i]? = some v → w.cell? ⟨b, off + i, none⟩ = some v
theorem Vals.below {w w' : World} {a : Option Addr} {xs : List Value} (h : Vals w a xs) {B : Nat} (hb : Below B w w') (hB : w.heap.size ≤ B) : Vals w' a xs := fun hl => by
 obtain ⟨b, off, e, h1, h2⟩ := h hl
 exact ⟨b, off, e, Nat.lt_of_lt_of_le h1 hb.size, fun i v hi => (hb.cell (p := ⟨b, _, none⟩) (by show b < B; omega)).trans (h2 i v hi)⟩
theorem Vals.nil (w : World) (a : Option Addr) : Vals w a [] := fun h => absurd h (by simp)
def IsVals (w : World) (v : Value) (xs : List Value) : Prop := ∃ a cap, v = .slice a xs.length cap ∧ Vals w a xs
theorem IsVals.below {w w' : World} {v : Value} {xs : List Value} (h : IsVals w v xs) {B : Nat} (hb : Below B w w') (hB : w.heap.size ≤ B) : IsVals w' v xs := by
 obtain ⟨a, cap, e, h2⟩ := h
 exact ⟨a, cap, e, h2.below hb hB⟩
theorem IsVals.empty (w : World) : IsVals w (.slice none 0 0) [] := ⟨none, 0, rfl, Vals.nil _ _⟩
theorem IsVals.own {w : World} {base n : Nat} {e : TypeId} {v : Value} {xs : List Value} (h : w.ownsRow base e 1 v n xs) : IsVals w v xs := by
 have hl : xs.length = n := by simpa using h.1
 rcases h.2 with ⟨rfl, rfl⟩ | ⟨g, cap, cur, rfl, hb, hg, hn, hc, hs, ht⟩
 ·have : xs = [] := List.eq_nil_of_length_eq_zero hl
  subst this
  exact .empty _
 ·refine ⟨_, cap, by rw [hl], fun hp => ⟨g, 0, rfl, (Array.getElem?_eq_some_iff.1 hg).1, fun i x hi => ?_⟩⟩
  have := h.cells (g := g) rfl i x hi
  rw [Nat.zero_add]
  rwa [show (⟨g, 0, none⟩ : Addr).add i = ⟨g, i, none⟩ from by unfold Addr.add; split <;> simp_all] at this
theorem IsVals.row {w : World} {b : Nat} {t : TypeId} {n cap : Nat} {f : Nat → Value} (h : w.rowIs b t n f) : IsVals w (.slice (some ⟨b, 0, none⟩) n cap) ((List.range n).map f) := by
 refine ⟨_, cap, by simp, fun hp => ⟨b, 0, rfl, h.lt, fun i x hi => ?_⟩⟩
 have hi2 : i < n := by
  have := (List.getElem?_eq_some_iff.1 hi).1
  simpa using this
 rw [List.getElem?_map, List.getElem?_range hi2] at hi
 simp only [Option.map_some, Option.some.injEq] at hi
 rw [Nat.zero_add, ← hi]
 exact h.cell hi2
theorem ownsRow_below {w w' : World} {base n size : Nat} {e : TypeId} {v : Value} {xs : List Value} (h : w.ownsRow base e size v n xs) (hb : Below w.heap.size w w') : w'.ownsRow base e size v n xs := by
 refine ⟨h.1, ?_⟩
 rcases h.2 with hn | ⟨g, cap, cur, rfl, hbg, hg, rest⟩
 ·exact .inl hn
 ·refine .inr ⟨g, cap, cur, rfl, hbg, ?_, rest⟩
  rw [hb.block g (Array.getElem?_eq_some_iff.1 hg).1]
  exact hg
theorem ownsRow_low {w : World} {base n size : Nat} {e : TypeId} {v : Value} {xs : List Value} (h : w.ownsRow base e size v n xs) {base' : Nat} (hb : base' ≤ base) : w.ownsRow base' e size v n xs := by
 refine ⟨h.1, ?_⟩
 rcases h.2 with hn | ⟨g, cap, cur, rfl, hbg, rest⟩
 ·exact .inl hn
 ·exact .inr ⟨g, cap, cur, rfl, by omega, rest⟩
theorem grownBy_alloc_trans {w w' : World} {o : Obj} {row : Option Nat} (h : (w.alloc o).grownBy w' row) : w.grownBy w' row :=
 ⟨h.os, h.tape, h.output, by have := h.size; simp at this; omega, fun k hk hr => (h.block k (by simp; omega) hr).trans (Below.heap_alloc w o k hk)⟩
theorem ownBlock_ge {w : World} {base n size : Nat} {e : TypeId} {v : Value} {xs : List Value} (h : w.ownsRow base e size v n xs) {B : Nat} (hB : B ≤ base) : ∀ k, v.ownBlock = some k → B ≤ k := fun k hk => by have := (h.lt k hk).1; omega
theorem wpList_push {P : Program} (w : World) {ops : Array Oper} {rest : List Oper} {o : Oper} {a : Act} {Q : Exit → Act → World → Prop} (hgd : o.guard = none) (s x : Operand) (t : TypeId)
  (ho : o.op = .call { callee := .builtin .append, args := #[s, x], argTypes := #[t, t] })
  (base : Nat) (e : TypeId) (z : Value) (bytes : Nat) (ht : P.underlying t = some (.slice e)) (hinfo : (P.info? e).map (fun i => (i.zero, i.size, i.bytes)) = some (some z, 1, bytes)) (hz1 : z.cells.size = 1)
  (v : Value) (n : Nat) (xs : List Value) (u : Value) (H : Nat) (hH : w.heap.size = H) (hs : a.eval s = v) (hown : w.ownsRow base e 1 v n xs) (hx : a.eval x = .slice (some ⟨H, 0, none⟩) 1 1) (hu : u.oneCell' = true)
  (h63 : n + 1 ≤ maxLen) (hbytes : (n + 1) * bytes ≤ 140737488355328) (hbase : base ≤ w.heap.size)
  (h : ∀ g cap w', w'.ownsRow base e 1 (.slice (some ⟨g, 0, none⟩) (n + 1) cap) (n + 1) (xs ++ [u]) → w.grownBy w' v.ownBlock → (v.ownBlock = some g ∨ w.heap.size ≤ g) → g < w'.heap.size → wpList P ops Q rest (a.put o.dst (.slice (some ⟨g, 0, none⟩) (n + 1) cap)) w') : wpList P ops Q (o :: rest) a (w.alloc (.cells #[u] e)) := by
 obtain ⟨i, hi, hz0, hzs, hzb⟩ := info_parts hinfo
 subst hH
 refine wpList_append_lies (w.alloc (.cells #[u] e)) hgd s x t ho base e i z 1 bytes ht hi hz0 hzs hzb hz1 (by decide) v n xs hs (hown.alloc _) ⟨w.heap.size, 0, none⟩ 1 1 [u] hx rfl ?_ (by simpa using hu) (by decide) h63 hbytes (by simp; omega) _ rfl ?_
 ·have := World.news_of_block (heap_alloc_new w (.cells #[u] e))
  exact this
 ·intro g cap w' h1 h2 h3 h4
  exact h g cap w' h1 (grownBy_alloc_trans h2) (h3.imp id fun e => by rw [e]; simp) h4
theorem wpList_pushN {P : Program} (w : World) {ops : Array Oper} {rest : List Oper} {o : Oper} {a : Act} {Q : Exit → Act → World → Prop} (hgd : o.guard = none) (s x : Operand) (t : TypeId)
  (ho : o.op = .call { callee := .builtin .append, args := #[s, x], argTypes := #[t, t] })
  (base : Nat) (e : TypeId) (z : Value) (size bytes : Nat) (ht : P.underlying t = some (.slice e)) (hinfo : (P.info? e).map (fun i => (i.zero, i.size, i.bytes)) = some (some z, size, bytes)) (hz1 : z.cells.size = size) (hsz : 0 < size)
  (v : Value) (n : Nat) (xs us : List Value) (H : Nat) (hH : w.heap.size = H) (hs : a.eval s = v) (hown : w.ownsRow base e size v n xs) (hx : a.eval x = .slice (some ⟨H, 0, none⟩) 1 1) (hul : us.length = size) (hu : ∀ u ∈ us, u.oneCell' = true)
  (h63 : n + 1 ≤ maxLen) (hbytes : (n + 1) * bytes ≤ 140737488355328) (hbase : base ≤ w.heap.size)
  (h : ∀ g cap w', w'.ownsRow base e size (.slice (some ⟨g, 0, none⟩) (n + 1) cap) (n + 1) (xs ++ us) → w.grownBy w' v.ownBlock → (v.ownBlock = some g ∨ w.heap.size ≤ g) → g < w'.heap.size → wpList P ops Q rest (a.put o.dst (.slice (some ⟨g, 0, none⟩) (n + 1) cap)) w') : wpList P ops Q (o :: rest) a (w.alloc (.cells us.toArray e)) := by
 obtain ⟨i, hi, hz0, hzs, hzb⟩ := info_parts hinfo
 subst hH
 refine wpList_append_lies (w.alloc (.cells us.toArray e)) hgd s x t ho base e i z size bytes ht hi hz0 hzs hzb hz1 hsz v n xs hs (hown.alloc _) ⟨w.heap.size, 0, none⟩ 1 1 us hx (by omega) ?_ hu (by decide) h63 hbytes (by simp; omega) _ rfl ?_
 ·have := World.news_of_block (heap_alloc_new w (.cells us.toArray e))
  exact this
 ·intro g cap w' h1 h2 h3 h4
  exact h g cap w' h1 (grownBy_alloc_trans h2) (h3.imp id fun e => by rw [e]; simp) h4
def IsRow (w : World) (v : Value) (n : Nat) (xs : List Value) : Prop := ∃ a cap, v = .slice a n cap ∧ Vals w a xs
theorem IsRow.below {w w' : World} {v : Value} {n : Nat} {xs : List Value} (h : IsRow w v n xs) {B : Nat} (hb : Below B w w') (hB : w.heap.size ≤ B) : IsRow w' v n xs := by
 obtain ⟨a, cap, e, h2⟩ := h
 exact ⟨a, cap, e, h2.below hb hB⟩
theorem IsRow.own {w : World} {base n size : Nat} {e : TypeId} {v : Value} {xs : List Value} (hsz : 0 < size) (h : w.ownsRow base e size v n xs) : IsRow w v n xs := by
 rcases h.2 with ⟨rfl, rfl⟩ | ⟨g, cap, cur, rfl, hb, hg, hn, hc, hs, ht⟩
 ·have : xs = [] := List.eq_nil_of_length_eq_zero (by have := h.1; omega)
  subst this
  exact ⟨_, _, rfl, Vals.nil _ _⟩
 ·refine ⟨_, cap, rfl, fun hp => ⟨g, 0, rfl, (Array.getElem?_eq_some_iff.1 hg).1, fun i x hi => ?_⟩⟩
  have := h.cells (g := g) rfl i x hi
  rw [Nat.zero_add]
  rwa [show (⟨g, 0, none⟩ : Addr).add i = ⟨g, i, none⟩ from by unfold Addr.add; split <;> simp_all] at this
def ownF (w : World) (H g cap n : Nat) (E : TypeId) (f : Nat → Value) : Prop := w.ownsRow H E 1 (.slice (some ⟨g, 0, none⟩) n cap) n ((List.range n).map f)
theorem ownF.cell {w : World} {H g cap n : Nat} {E : TypeId} {f : Nat → Value} (h : ownF w H g cap n E f) {i : Nat} (hi : i < n) : w.cell? ⟨g, i, none⟩ = some (f i) := by
 have := h.cells (g := g) rfl i (f i) (by rw [List.getElem?_map, List.getElem?_range hi]; rfl)
 rwa [show (⟨g, 0, none⟩ : Addr).add i = ⟨g, i, none⟩ from by unfold Addr.add; split <;> simp_all] at this
theorem ownF.frozen {w : World} {H g cap n : Nat} {E : TypeId} {f : Nat → Value} (h : ownF w H g cap n E f) (i : Nat) : w.frozen? ⟨g, i, none⟩ = false := h.frozenAt i
theorem ownF.congr {w : World} {H g cap n : Nat} {E : TypeId} {f f' : Nat → Value} (h : ownF w H g cap n E f) (e : ∀ i, i < n → f i = f' i) : ownF w H g cap n E f' := by
 unfold ownF
 rw [← List.map_congr_left fun i hi => e i (List.mem_range.1 hi)]
 exact h
theorem ownF.set {w : World} {H g cap n : Nat} {E : TypeId} {f : Nat → Value} (h : ownF w H g cap n E f) (i : Nat) (u : Value) : ownF (w.setCell ⟨g, i, none⟩ u) H g cap n E (fun j => if j = i then u else f j) := by
 have := (h.stored i u).1
 unfold ownF
 rwa [show ((List.range n).map f).set i u = (List.range n).map (fun j => if j = i then u else f j) from by
  apply List.ext_getElem?
  intro j
  rw [List.getElem?_set]
  by_cases hj : j < n
  ·by_cases e : i = j
   ·subst e; simp [hj]
   ·have : j ≠ i := fun h => e h.symm
    rw [if_neg e, List.getElem?_map, List.getElem?_map, List.getElem?_range hj]
    simp [this]
  ·have hj2 : ¬ i = j ∨ ¬ i < n := by omega
   rw [List.getElem?_eq_none (l := (List.range n).map (fun j => if j = i then u else f j)) (by simp; omega)]
   split
   ·split
    ·rename_i h1 h2; simp at h2; omega
    ·rfl
   ·exact List.getElem?_eq_none (by simp; omega)] at this
theorem ownF.below {w w' : World} {H g cap n : Nat} {E : TypeId} {f : Nat → Value} (h : ownF w H g cap n E f) (hb : Below w.heap.size w w') : ownF w' H g cap n E f := ownsRow_below h hb
theorem ownF.drew {w : World} {H g cap n : Nat} {E : TypeId} {f : Nat → Value} (h : ownF w H g cap n E f) : ownF w.drew H g cap n E f := h
theorem ownF.lt {w : World} {H g cap n : Nat} {E : TypeId} {f : Nat → Value} (h : ownF w H g cap n E f) : H ≤ g ∧ g < w.heap.size := World.ownsRow.lt h g rfl
theorem ownF.vals {w : World} {H g cap n : Nat} {E : TypeId} {f : Nat → Value} (h : ownF w H g cap n E f) : IsVals w (.slice (some ⟨g, 0, none⟩) n cap) ((List.range n).map f) := IsVals.own h
end Go.Proofs.YtkemlckmfgacdaaGreatDoor
namespace Go.Proofs.YtkemlckmfgacdaaGreatDoor
set_option maxRecDepth 20000
set_option maxHeartbeats 64000000
open Go.ChangeShapes Go.WideShapes Go.ChangeAt Go.RowKit
set_option linter.unusedVariables false
open Tp
def bts (l : Bs) : ByteArray := ⟨l.toArray⟩
theorem lst_bts (l : Bs) : lst (bts l) = l := rfl
theorem bts_lst (s : ByteArray) : bts (lst s) = s := by
 unfold bts lst
 rw [Array.toArray_toList]
theorem bts_size (l : Bs) : (bts l).size = l.length := by
 have := lst_len (bts l)
 rw [lst_bts] at this; omega
theorem bts_toList (l : Bs) : (bts l).toList = l := by rw [ByteArray.toList_eq]; rfl
def txv (K : List Bs) : List Value := K.map fun t => .string (bts t)
theorem txv_length (K : List Bs) : (txv K).length = K.length := by simp [txv]
theorem txv_push (K : List Bs) (t : Bs) : txv (K ++ [t]) = txv K ++ [.string (bts t)] := by simp [txv]
theorem txv_at {K : List Bs} {i : Nat} {t : Bs} (h : K[i]? = some t) : (txv K)[i]? = some (.string (bts t)) := by simp [txv, h]
theorem ownForm {w : World} {base n size : Nat} {e : TypeId} {v : Value} {xs : List Value} (h : w.ownsRow base e size v n xs) : ∃ a cp, v = .slice a n cp ∧ n ≤ cp ∧ cp ≤ 9223372036854775807 ∧ (0 < n → ∃ g, a = some ⟨g, 0, none⟩) := by
 have hml : maxLen = 9223372036854775807 := rfl
 rcases h.2 with ⟨rfl, rfl⟩ | ⟨g, cap, cur, rfl, _, _, h1, h2, _, _⟩
 ·exact ⟨none, 0, rfl, Nat.le_refl _, by omega, fun h => absurd h (by omega)⟩
 ·exact ⟨some ⟨g, 0, none⟩, cap, rfl, h1, by omega, fun _ => ⟨g, rfl⟩⟩
structure RowS (B : Nat) (e : TypeId) (size n : Nat) (vs : List Value) (x : Value) (w wr : World) : Prop where
 own : wr.ownsRow B e size x n vs
 below : Below B w wr
theorem RowS.step {B : Nat} {e : TypeId} {size n : Nat} {vs : List Value} {x : Value} {w wr wx : World} (h : RowS B e size n vs x w wr) (hb : Below wr.heap.size wr wx) (hB : B ≤ wr.heap.size) : RowS B e size n vs x w wx := ⟨ownsRow_below h.own hb, h.below.trans (hb.mono hB)⟩
theorem RowS.drewN {B : Nat} {e : TypeId} {size n : Nat} {vs : List Value} {x : Value} {w wr : World} (h : RowS B e size n vs x w wr) (q : Nat) : RowS B e size n vs x w (wr.drewN q) := ⟨ownsRow_below h.own (below_drewN (Below.refl _ _) q), below_drewN h.below q⟩
theorem RowS.pushed {B gb cp : Nat} {e : TypeId} {size n : Nat} {vs us : List Value} {x : Value} {w wr wx : World} (h : RowS B e size n vs x w wr) (hB : B ≤ wr.heap.size) (ho : wx.ownsRow B e size (.slice (some ⟨gb, 0, none⟩) (n + 1) cp) (n + 1) (vs ++ us)) (hg : wr.grownBy wx x.ownBlock) : RowS B e size (n + 1) (vs ++ us) (.slice (some ⟨gb, 0, none⟩) (n + 1) cp) w wx :=
 ⟨ho, h.below.grown hg hB (ownBlock_ge h.own lr)⟩
theorem RowS.nil (B : Nat) (e : TypeId) (size : Nat) (w : World) : RowS B e size 0 [] (.slice none 0 0) w w := ⟨World.ownsRow_nil _ _ _ _, Below.refl _ _⟩
theorem infoStr : (Tryz.prog.info? 9).map (fun i => (i.zero, i.size, i.bytes)) = some (some (.string ⟨#[]⟩), 1, 16) := by kernel_rfl
namespace Tp
set_option maxRecDepth 20000
set_option maxHeartbeats 64000000
theorem take_snoc {α : Type _} {L : List α} {i : Nat} {p : α} (h : L[i]? = some p) : L.take (i + 1) = L.take i ++ [p] := by
 rw [List.take_add_one, h]; rfl
theorem drop_some {α : Type _} {L : List α} {i : Nat} {c : α} (h : L[i]? = some c) : L.drop i = c :: L.drop (i + 1) := by
 obtain ⟨h1, h2⟩ := List.getElem?_eq_some_iff.1 h
 rw [List.drop_eq_getElem_cons h1, h2]
abbrev Lab := Bs × Bs
def keys (l : List Lab) : List Bs := l.map (·.1)
end Tp
theorem bts_append (a b : Bs) : bts a ++ bts b = bts (a ++ b) := by
 apply ByteArray.ext
 simp [bts, ByteArray.data_append]
theorem bts_eq (a b : Bs) : ((bts a).toList == (bts b).toList) = decide (a = b) := by
 rw [bts_toList, bts_toList]
 by_cases h : a = b
 ·subst h; simp
 ·simp [h]
def LabsAt (w : World) (b off : Nat) (L : List Lab) : Prop := ∀ i p, L[i]? = some p → w.cell? ⟨b, off + i * 2, none⟩ = some (.string (bts p.1)) ∧ w.cell? ⟨b, off + i * 2 + 1, none⟩ = some (.string (bts p.2))
def Labs (w : World) (a : Option Addr) (L : List Lab) : Prop := 0 < L.length → ∃ b off, a = some ⟨b, off, none⟩ ∧ b < w.heap.size ∧ LabsAt w b off L
theorem LabsAt.below {w w' : World} {b off : Nat} {L : List Lab} (h : LabsAt w b off L) {B : Nat} (hb : Below B w w') (hB : b < B) : LabsAt w' b off L := fun i s hi => by
 obtain ⟨h1, h2⟩ := h i s hi
 exact ⟨(hb.cell (p := ⟨b, _, none⟩) hB).trans h1, (hb.cell (p := ⟨b, _, none⟩) hB).trans h2⟩
theorem Labs.below {w w' : World} {a : Option Addr} {L : List Lab} (h : Labs w a L) {B : Nat} (hb : Below B w w') (hB : w.heap.size ≤ B) : Labs w' a L := fun hl => by
 obtain ⟨b, off, e, h1, h2⟩ := h hl
 exact ⟨b, off, e, Nat.lt_of_lt_of_le h1 hb.size, h2.below hb (by omega)⟩
theorem Labs.nil (w : World) (a : Option Addr) : Labs w a [] := fun h => absurd h (by simp)
def LabSizes (l : List Lab) : Prop := ∀ x, x ∈ l → x.1.length ≤ 140737488351232 ∧ x.2.length ≤ 140737488351232
theorem cell_of_block {w w' : World} {p : Addr} (h : w'.heap[p.block]? = w.heap[p.block]?) : w'.cell? p = w.cell? p := by
 unfold World.cell?
 rw [h]
end Go.Proofs.YtkemlckmfgacdaaGreatDoor
namespace Go.Proofs.YtkemlckmfgacdaaGreatDoor
set_option maxRecDepth 20000
set_option maxHeartbeats 64000000
end Go.Proofs.YtkemlckmfgacdaaGreatDoor
namespace Go.Proofs.YtkemlckmfgacdaaGreatDoor
set_option maxRecDepth 20000
set_option maxHeartbeats 64000000
open Go.ChangeShapes Go.WideShapes Go.ChangeAt Go.RowKit
set_option linter.unusedVariables false
open Tp
inductive Ask where
 | mk : Int → Bs → Bs → Int → List Ask → Ask
namespace Ask
set_option maxRecDepth 20000
set_option maxHeartbeats 64000000
def kind : Ask → Int | mk k _ _ _ _ => k
def key : Ask → Bs | mk _ a _ _ _ => a
def val : Ask → Bs | mk _ _ a _ _ => a
def num : Ask → Int | mk _ _ _ n _ => n
def sub : Ask → List Ask | mk _ _ _ _ l => l
mutual
def size : Ask → Nat
 | mk _ _ _ _ l => 1 + sizes l
def sizes : List Ask → Nat
 | [] => 0
 | x :: l => size x + sizes l
end
theorem sizes_at {l : List Ask} {i : Nat} {x : Ask} (h : l[i]? = some x) : size x ≤ sizes l := by
 induction l generalizing i with
 | nil => simp at h
 | cons y l ih =>
  rw [sizes]
  cases i with
  | zero => simp at h; subst h; omega
  | succ i => have := ih (i := i) (by simpa using h); omega
theorem sizes_take {l : List Ask} {i : Nat} {x : Ask} (h : l[i]? = some x) : sizes (l.take (i + 1)) = sizes (l.take i) + size x := by
 induction l generalizing i with
 | nil => simp at h
 | cons y l ih =>
  cases i with
  | zero => simp at h; subst h; simp [sizes]
  | succ i =>
   have := ih (i := i) (by simpa using h)
   rw [List.take_succ_cons, List.take_succ_cons, sizes, sizes, this]; omega
theorem sizes_take_le (l : List Ask) (i : Nat) : sizes (l.take i) ≤ sizes l := by
 induction l generalizing i with
 | nil => simp
 | cons y l ih =>
  cases i with
  | zero => simp [sizes]
  | succ i => have := ih i; rw [List.take_succ_cons, sizes, sizes]; omega
theorem size_sub {k : Int} {a b : Bs} {n : Int} {l : List Ask} {i : Nat} {x : Ask} (h : l[i]? = some x) : size x < size (mk k a b n l) := by
 have := sizes_at h
 rw [size]; omega
theorem one_le (x : Ask) : 1 ≤ size x := by
 cases x; rw [size]; omega
def cpu : Bs := [99, 112, 117]
def mem : Bs := [109, 101, 109]
def gpu : Bs := [103, 112, 117]
def unit (s : Bs) : Bool := decide (s = cpu) || decide (s = mem) || decide (s = gpu)
def inner (k : Int) : Nat := if k = 5 ∨ k = 6 then 2 else if k = 4 then 1 else 0
def bad (k : Int) (a b : Bs) (n : Int) (len : Nat) : Int :=
 if k < 1 ∨ 6 < k then 1 else
 if len ≠ inner k ∨ (4 ≤ k ∧ a ≠ []) ∨ (k ≠ 2 ∧ b ≠ []) ∨ (k ≠ 3 ∧ n ≠ 0) then 1 else
 if (k = 3 ∧ unit a = false) ∨ ((k = 1 ∨ k = 2) ∧ lab a = false) ∨ (k = 2 ∧ lab b = false) then 3 else
 if n < 0 ∨ 1099511627776 < n then 4 else 0
mutual
def err : Ask → Int
 | mk k a b n l => if bad k a b n l.length ≠ 0 then bad k a b n l.length else errs l
def errs : List Ask → Int
 | [] => 0
 | x :: l => if err x ≠ 0 then err x else errs l
end
def OkTo (l : List Ask) (j : Nat) : Prop := errs l = errs (l.drop j)
theorem OkTo.zero (l : List Ask) : OkTo l 0 := rfl
theorem OkTo.succ {l : List Ask} {j : Nat} {x : Ask} (h : OkTo l j) (hx : l[j]? = some x) (he : err x = 0) : OkTo l (j + 1) := by
 unfold OkTo at *
 rw [h, drop_some hx, errs, if_neg (by simp [he])]
theorem OkTo.bad {l : List Ask} {j : Nat} {x : Ask} (h : OkTo l j) (hx : l[j]? = some x) (he : err x ≠ 0) : errs l = err x := by
 unfold OkTo at h
 rw [h, drop_some hx, errs, if_pos he]
theorem OkTo.fin {l : List Ask} {j : Nat} (h : OkTo l j) (hj : l.length ≤ j) : errs l = 0 := by
 unfold OkTo at h
 rw [h, List.drop_eq_nil_of_le hj, errs]
def fault (x : Ask) : Int := if 60 < size x then 2 else err x
end Ask
def Cells5 (w : World) (b off : Nat) (v : Value) : Prop := ∃ c0 c1 c2 c3 c4, v = .agg #[c0, c1, c2, c3, c4] ∧ w.cell? ⟨b, off, none⟩ = some c0 ∧ w.cell? ⟨b, off + 1, none⟩ = some c1 ∧ w.cell? ⟨b, off + 2, none⟩ = some c2 ∧ w.cell? ⟨b, off + 3, none⟩ = some c3 ∧ w.cell? ⟨b, off + 4, none⟩ = some c4
mutual
def AskV (w : World) : Ask → Value → Prop
 | .mk k a b n l, v => ∃ ad len cap, v = .agg #[.int .i64 k, .string (bts a), .string (bts b), .int .i64 n, .slice ad len cap] ∧ len = l.length ∧ len ≤ cap ∧ cap ≤ 9223372036854775807 ∧ a.length ≤ 9223372036854775807 ∧ b.length ≤ 9223372036854775807 ∧ (0 < len → ∃ bl off, ad = some ⟨bl, off, none⟩ ∧ bl < w.heap.size ∧ AsksV w l bl off)
def AsksV (w : World) : List Ask → Nat → Nat → Prop
 | [], _, _ => True
 | x :: l, b, off => (∃ v, Cells5 w b off v ∧ AskV w x v) ∧ AsksV w l b (off + 5)
end
theorem Cells5.below {w w' : World} {b off : Nat} {v : Value} (h : Cells5 w b off v) {B : Nat} (hb : Below B w w') (hB : b < B) : Cells5 w' b off v := by
 obtain ⟨c0, c1, c2, c3, c4, e, h0, h1, h2, h3, h4⟩ := h
 exact ⟨c0, c1, c2, c3, c4, e, (hb.cell (p := ⟨b, _, none⟩) hB).trans h0, (hb.cell (p := ⟨b, _, none⟩) hB).trans h1, (hb.cell (p := ⟨b, _, none⟩) hB).trans h2, (hb.cell (p := ⟨b, _, none⟩) hB).trans h3, (hb.cell (p := ⟨b, _, none⟩) hB).trans h4⟩
mutual
theorem AskV.below {w w' : World} (hb : Below w.heap.size w w') : ∀ (x : Ask) (v : Value), AskV w x v → AskV w' x v
 | .mk k a b n l, v, h => by
  rw [AskV] at h ⊢
  obtain ⟨ad, len, cap, e, h1, h2, h3, h5, h6, h4⟩ := h
  refine ⟨ad, len, cap, e, h1, h2, h3, h5, h6, fun hp => ?_⟩
  obtain ⟨bl, off, e2, hlt, hh⟩ := h4 hp
  exact ⟨bl, off, e2, Nat.lt_of_lt_of_le hlt hb.size, AsksV.below hb l bl off hlt hh⟩
theorem AsksV.below {w w' : World} (hb : Below w.heap.size w w') : ∀ (l : List Ask) (b off : Nat), b < w.heap.size → AsksV w l b off → AsksV w' l b off
 | [], _, _, _, _ => by rw [AsksV]; trivial
 | x :: l, b, off, hlt, h => by
  rw [AsksV] at h ⊢
  obtain ⟨⟨v, h1, h2⟩, h3⟩ := h
  exact ⟨⟨v, h1.below hb hlt, AskV.below hb x v h2⟩, AsksV.below hb l b (off + 5) hlt h3⟩
end
theorem AsksV.at' {w : World} : ∀ {l : List Ask} {b off i : Nat} {x : Ask}, AsksV w l b off → l[i]? = some x → ∃ v, Cells5 w b (off + i * 5) v ∧ AskV w x v
 | [], _, _, _, _, _, h => by simp at h
 | y :: l, b, off, 0, x, h, hx => by
  rw [AsksV] at h
  simp at hx; subst hx
  simpa using h.1
 | y :: l, b, off, i + 1, x, h, hx => by
  rw [AsksV] at h
  have := AsksV.at' (i := i) h.2 (by simpa using hx)
  rwa [show off + 5 + i * 5 = off + (i + 1) * 5 from by omega] at this
theorem AsksV.get {w : World} {l : List Ask} {b off i : Nat} {x : Ask} (h : AsksV w l b off) (hx : l[i]? = some x) : ∃ ad len cap, w.cell? ⟨b, off + i * 5, none⟩ = some (.int .i64 x.kind) ∧ w.cell? ⟨b, off + i * 5 + 1, none⟩ = some (.string (bts x.key)) ∧ w.cell? ⟨b, off + i * 5 + 2, none⟩ = some (.string (bts x.val)) ∧ w.cell? ⟨b, off + i * 5 + 3, none⟩ = some (.int .i64 x.num) ∧ w.cell? ⟨b, off + i * 5 + 4, none⟩ = some (.slice ad len cap) ∧ AskV w x (.agg #[.int .i64 x.kind, .string (bts x.key), .string (bts x.val), .int .i64 x.num, .slice ad len cap]) := by
 obtain ⟨v, ⟨c0, c1, c2, c3, c4, e, h0, h1, h2, h3, h4⟩, hv⟩ := h.at' hx
 cases x with
 | mk k a b' n l' =>
  have hv2 := hv
  rw [AskV] at hv2
  obtain ⟨ad, len, cap, e2, _⟩ := hv2
  rw [e] at e2
  simp only [Value.agg.injEq, Array.mk.injEq, List.cons.injEq, and_true] at e2
  obtain ⟨rfl, rfl, rfl, rfl, rfl⟩ := e2
  exact ⟨ad, len, cap, h0, h1, h2, h3, h4, by subst e; exact hv⟩
end Go.Proofs.YtkemlckmfgacdaaGreatDoor
