/- Texts as cells; rows of texts in memory; a row that a call makes and grows; rows of labels. -/
import Derived.Test.YtddcaabhbbdbpaaDoorTmplM
import Derived.Test.YtddcaabhbbdbpaaDoorLst
import Derived.Test.YtddcaabhbbdbpaaDoorOwn
namespace Go.Proofs.YtddcaabhbbdbpaaDoor
open Go.ChangeShapes Go.WideShapes Go.ChangeAt Go.RowKit
set_option linter.unusedVariables false
open Tp
def bts (l : Bs) : ByteArray := ⟨l.toArray⟩
theorem lst_bts (l : Bs) : lst (bts l) = l := rfl
theorem bts_lst (s : ByteArray) : bts (lst s) = s := by
  unfold bts lst
  rw [Array.toArray_toList]
theorem bts_size (l : Bs) : (bts l).size = l.length := by
  have := lst_len (bts l)
  rw [lst_bts] at this; omega
theorem bts_inj {a b : Bs} (h : bts a = bts b) : a = b := by
  have := congrArg lst h
  rwa [lst_bts, lst_bts] at this
theorem bts_toList (l : Bs) : (bts l).toList = l := by rw [ByteArray.toList_eq]; rfl
/-- texts as cells -/
def txv (K : List Bs) : List Value := K.map fun t => .string (bts t)
theorem txv_length (K : List Bs) : (txv K).length = K.length := by simp [txv]
theorem txv_push (K : List Bs) (t : Bs) : txv (K ++ [t]) = txv K ++ [.string (bts t)] := by simp [txv]
theorem txv_at {K : List Bs} {i : Nat} {t : Bs} (h : K[i]? = some t) : (txv K)[i]? = some (.string (bts t)) := by simp [txv, h]
theorem ownForm {w : World} {base n size : Nat} {e : TypeId} {v : Value} {xs : List Value} (h : w.ownsRow base e size v n xs) : ∃ a cp, v = .slice a n cp ∧ n ≤ cp ∧ cp ≤ 9223372036854775807 ∧ (0 < n → ∃ g, a = some ⟨g, 0, none⟩) := by
  have hml : maxLen = 9223372036854775807 := rfl
  rcases h.2 with ⟨rfl, rfl⟩ | ⟨g, cap, cur, rfl, _, _, h1, h2, _, _⟩
  · exact ⟨none, 0, rfl, Nat.le_refl _, by omega, fun h => absurd h (by omega)⟩
  · exact ⟨some ⟨g, 0, none⟩, cap, rfl, h1, by omega, fun _ => ⟨g, rfl⟩⟩
/-- a row of the call's own, some cells to a thing -/
structure RowS (B : Nat) (e : TypeId) (size n : Nat) (vs : List Value) (x : Value) (w wr : World) : Prop where
  own : wr.ownsRow B e size x n vs
  below : Below B w wr
theorem RowS.step {B : Nat} {e : TypeId} {size n : Nat} {vs : List Value} {x : Value} {w wr wx : World} (h : RowS B e size n vs x w wr) (hb : Below wr.heap.size wr wx) (hB : B ≤ wr.heap.size) : RowS B e size n vs x w wx := ⟨ownsRow_below h.own hb, h.below.trans (hb.mono hB)⟩
theorem RowS.drewN {B : Nat} {e : TypeId} {size n : Nat} {vs : List Value} {x : Value} {w wr : World} (h : RowS B e size n vs x w wr) (q : Nat) : RowS B e size n vs x w (wr.drewN q) := ⟨ownsRow_below h.own (below_drewN (Below.refl _ _) q), below_drewN h.below q⟩
theorem RowS.pushed {B gb cp : Nat} {e : TypeId} {size n : Nat} {vs us : List Value} {x : Value} {w wr wx : World} (h : RowS B e size n vs x w wr) (hB : B ≤ wr.heap.size) (ho : wx.ownsRow B e size (.slice (some ⟨gb, 0, none⟩) (n + 1) cp) (n + 1) (vs ++ us)) (hg : wr.grownBy wx x.ownBlock) : RowS B e size (n + 1) (vs ++ us) (.slice (some ⟨gb, 0, none⟩) (n + 1) cp) w wx :=
  ⟨ho, h.below.grown hg hB (ownBlock_ge h.own (Nat.le_refl _))⟩
theorem RowS.nil (B : Nat) (e : TypeId) (size : Nat) (w : World) : RowS B e size 0 [] (.slice none 0 0) w w := ⟨World.ownsRow_nil _ _ _ _, Below.refl _ _⟩
theorem infoStr : (Tryd.prog.info? 9).map (fun i => (i.zero, i.size, i.bytes)) = some (some (.string ⟨#[]⟩), 1, 16) := by kernel_rfl
theorem ret_slice' {a : Option Addr} {n m cap : Nat} (h : n = m) : Ending.returned (.slice a n cap) = .returned (.slice a m cap) := by rw [h]
namespace Tp
theorem take_snoc {α : Type _} {L : List α} {i : Nat} {p : α} (h : L[i]? = some p) : L.take (i + 1) = L.take i ++ [p] := by
  rw [List.take_add_one, h]; rfl
theorem drop_some {α : Type _} {L : List α} {i : Nat} {c : α} (h : L[i]? = some c) : L.drop i = c :: L.drop (i + 1) := by
  obtain ⟨h1, h2⟩ := List.getElem?_eq_some_iff.1 h
  rw [List.drop_eq_getElem_cons h1, h2]
abbrev Lab := Bs × Bs
def keys (l : List Lab) : List Bs := l.map (·.1)
end Tp
theorem bts_append (a b : Bs) : bts a ++ bts b = bts (a ++ b) := by
  apply ByteArray.ext
  simp [bts, ByteArray.data_append]
theorem bts_eq (a b : Bs) : ((bts a).toList == (bts b).toList) = decide (a = b) := by
  rw [bts_toList, bts_toList]
  by_cases h : a = b
  · subst h; simp
  · simp [h]
def LabsAt (w : World) (b off : Nat) (L : List Lab) : Prop := ∀ i p, L[i]? = some p → w.cell? ⟨b, off + i * 2, none⟩ = some (.string (bts p.1)) ∧ w.cell? ⟨b, off + i * 2 + 1, none⟩ = some (.string (bts p.2))
/-- labels in a row -/
def Labs (w : World) (a : Option Addr) (L : List Lab) : Prop := 0 < L.length → ∃ b off, a = some ⟨b, off, none⟩ ∧ b < w.heap.size ∧ LabsAt w b off L
theorem LabsAt.below {w w' : World} {b off : Nat} {L : List Lab} (h : LabsAt w b off L) {B : Nat} (hb : Below B w w') (hB : b < B) : LabsAt w' b off L := fun i s hi => by
  obtain ⟨h1, h2⟩ := h i s hi
  exact ⟨(hb.cell (p := ⟨b, _, none⟩) hB).trans h1, (hb.cell (p := ⟨b, _, none⟩) hB).trans h2⟩
theorem Labs.below {w w' : World} {a : Option Addr} {L : List Lab} (h : Labs w a L) {B : Nat} (hb : Below B w w') (hB : w.heap.size ≤ B) : Labs w' a L := fun hl => by
  obtain ⟨b, off, e, h1, h2⟩ := h hl
  exact ⟨b, off, e, Nat.lt_of_lt_of_le h1 hb.size, h2.below hb (by omega)⟩
theorem Labs.nil (w : World) (a : Option Addr) : Labs w a [] := fun h => absurd h (by simp)
def LabSizes (l : List Lab) : Prop := ∀ x, x ∈ l → x.1.length ≤ 140737488351232 ∧ x.2.length ≤ 140737488351232
theorem cell_of_block {w w' : World} {p : Addr} (h : w'.heap[p.block]? = w.heap[p.block]?) : w'.cell? p = w.cell? p := by
  unfold World.cell?
  rw [h]
end Go.Proofs.YtddcaabhbbdbpaaDoor
