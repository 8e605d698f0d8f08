/- Rows of texts and rows of parts in memory; a row that a call makes and grows. -/
import Derived.Test.YtooocllampkibaaDoorTmplHas
import Derived.Test.YtooocllampkibaaDoorTmplCut
namespace Go.Proofs.YtooocllampkibaaDoor
open Go.ChangeShapes Go.WideShapes Go.ChangeAt Go.RowKit
set_option linter.unusedVariables false
open Tp
def bts (l : Bs) : ByteArray := ⟨l.toArray⟩
theorem lst_bts (l : Bs) : lst (bts l) = l := rfl
theorem bts_lst (s : ByteArray) : bts (lst s) = s := by
  unfold bts lst
  rw [Array.toArray_toList]
theorem bts_size (l : Bs) : (bts l).size = l.length := by
  have := lst_len (bts l)
  rw [lst_bts] at this; omega
theorem bts_inj {a b : Bs} (h : bts a = bts b) : a = b := by
  have := congrArg lst h
  rwa [lst_bts, lst_bts] at this
theorem bts_toList (l : Bs) : (bts l).toList = l := by rw [ByteArray.toList_eq]; rfl
/-- texts as cells -/
def txv (K : List Bs) : List Value := K.map fun t => .string (bts t)
theorem txv_length (K : List Bs) : (txv K).length = K.length := by simp [txv]
theorem txv_push (K : List Bs) (t : Bs) : txv (K ++ [t]) = txv K ++ [.string (bts t)] := by simp [txv]
theorem txv_at {K : List Bs} {i : Nat} {t : Bs} (h : K[i]? = some t) : (txv K)[i]? = some (.string (bts t)) := by simp [txv, h]
theorem hasK (K : List Bs) (m : Nat) (t : ByteArray) (a : Option Addr) (cap : Nat) (w : World) (hm : m = K.length) (hv : Vals w a (txv K)) (hs : m ≤ 9223372036854775807) : Calls Tryd.prog 25 #[.slice a m cap, .string t] w fun e w' => e = .returned (.bool (decide (lst t ∈ K))) ∧ Below w.heap.size w w' := by
  have h := hasText_any (K.map bts) a cap t w (by rw [List.map_map]; exact hv) (by rw [List.length_map]; omega)
  rw [List.length_map, ← hm] at h
  have e : (K.map bts).map lst = K := by
    rw [List.map_map, show lst ∘ bts = id from rfl, List.map_id]
  rw [e] at h
  exact h
def PartsAt (w : World) (b off : Nat) (L : List Part) : Prop := ∀ i p, L[i]? = some p → w.cell? ⟨b, off + i * 2, none⟩ = some (.bool p.gap) ∧ w.cell? ⟨b, off + i * 2 + 1, none⟩ = some (.string (bts p.txt))
/-- parts of a script, in a row -/
def Parts (w : World) (a : Option Addr) (L : List Part) : Prop := 0 < L.length → ∃ b off, a = some ⟨b, off, none⟩ ∧ b < w.heap.size ∧ PartsAt w b off L
theorem PartsAt.below {w w' : World} {b off : Nat} {L : List Part} (h : PartsAt w b off L) {B : Nat} (hb : Below B w w') (hB : b < B) : PartsAt w' b off L := fun i s hi => by
  obtain ⟨h1, h2⟩ := h i s hi
  exact ⟨(hb.cell (p := ⟨b, _, none⟩) hB).trans h1, (hb.cell (p := ⟨b, _, none⟩) hB).trans h2⟩
theorem Parts.below {w w' : World} {a : Option Addr} {L : List Part} (h : Parts w a L) {B : Nat} (hb : Below B w w') (hB : w.heap.size ≤ B) : Parts w' a L := fun hl => by
  obtain ⟨b, off, e, h1, h2⟩ := h hl
  exact ⟨b, off, e, Nat.lt_of_lt_of_le h1 hb.size, h2.below hb (by omega)⟩
def prc (L : List Part) : List Value := L.flatMap fun p => [.bool p.gap, .string (bts p.txt)]
theorem prc_append (A B : List Part) : prc (A ++ B) = prc A ++ prc B := by simp [prc]
theorem prc_length (L : List Part) : (prc L).length = L.length * 2 := by
  induction L with
  | nil => rfl
  | cons s L ih => simp only [prc, List.flatMap_cons, List.length_append, List.length_cons, List.length_nil] at ih ⊢; omega
theorem prc_at {L : List Part} {i : Nat} {p : Part} (h : L[i]? = some p) : (prc L)[i * 2]? = some (.bool p.gap) ∧ (prc L)[i * 2 + 1]? = some (.string (bts p.txt)) := by
  induction L generalizing i with
  | nil => simp at h
  | cons x L ih =>
    have e : prc (x :: L) = [.bool x.gap, .string (bts x.txt)] ++ prc L := by simp [prc]
    cases i with
    | zero => simp at h; subst h; rw [e]; simp
    | succ i =>
      obtain ⟨h1, h2⟩ := ih (i := i) (by simpa using h)
      rw [e]
      refine ⟨?_, ?_⟩
      · rw [List.getElem?_append_right (by simp; omega)]; simpa [show (i + 1) * 2 - 2 = i * 2 from by omega] using h1
      · rw [List.getElem?_append_right (by simp; omega)]; simpa [show (i + 1) * 2 + 1 - 2 = i * 2 + 1 from by omega] using h2
theorem Parts.of {w : World} {a : Option Addr} {L : List Part} (h : Vals w a (prc L)) : Parts w a L := fun hl => by
  obtain ⟨b, off, e, h1, h2⟩ := h (by rw [prc_length]; omega)
  refine ⟨b, off, e, h1, fun i s hi => ?_⟩
  obtain ⟨g1, g2⟩ := prc_at hi
  exact ⟨h2 _ _ g1, by rw [Nat.add_assoc]; exact h2 _ _ g2⟩
theorem ownForm {w : World} {base n size : Nat} {e : TypeId} {v : Value} {xs : List Value} (h : w.ownsRow base e size v n xs) : ∃ a cp, v = .slice a n cp ∧ n ≤ cp ∧ cp ≤ 9223372036854775807 ∧ (0 < n → ∃ g, a = some ⟨g, 0, none⟩) := by
  have hml : maxLen = 9223372036854775807 := rfl
  rcases h.2 with ⟨rfl, rfl⟩ | ⟨g, cap, cur, rfl, _, _, h1, h2, _, _⟩
  · exact ⟨none, 0, rfl, Nat.le_refl _, by omega, fun h => absurd h (by omega)⟩
  · exact ⟨some ⟨g, 0, none⟩, cap, rfl, h1, by omega, fun _ => ⟨g, rfl⟩⟩
/-- a row of the call's own, some cells to a thing -/
structure RowS (B : Nat) (e : TypeId) (size n : Nat) (vs : List Value) (x : Value) (w wr : World) : Prop where
  own : wr.ownsRow B e size x n vs
  below : Below B w wr
theorem RowS.step {B : Nat} {e : TypeId} {size n : Nat} {vs : List Value} {x : Value} {w wr wx : World} (h : RowS B e size n vs x w wr) (hb : Below wr.heap.size wr wx) (hB : B ≤ wr.heap.size) : RowS B e size n vs x w wx := ⟨ownsRow_below h.own hb, h.below.trans (hb.mono hB)⟩
theorem RowS.drewN {B : Nat} {e : TypeId} {size n : Nat} {vs : List Value} {x : Value} {w wr : World} (h : RowS B e size n vs x w wr) (q : Nat) : RowS B e size n vs x w (wr.drewN q) := ⟨ownsRow_below h.own (below_drewN (Below.refl _ _) q), below_drewN h.below q⟩
theorem RowS.pushed {B gb cp : Nat} {e : TypeId} {size n : Nat} {vs us : List Value} {x : Value} {w wr wx : World} (h : RowS B e size n vs x w wr) (hB : B ≤ wr.heap.size) (ho : wx.ownsRow B e size (.slice (some ⟨gb, 0, none⟩) (n + 1) cp) (n + 1) (vs ++ us)) (hg : wr.grownBy wx x.ownBlock) : RowS B e size (n + 1) (vs ++ us) (.slice (some ⟨gb, 0, none⟩) (n + 1) cp) w wx :=
  ⟨ho, h.below.grown hg hB (ownBlock_ge h.own (Nat.le_refl _))⟩
theorem RowS.nil (B : Nat) (e : TypeId) (size : Nat) (w : World) : RowS B e size 0 [] (.slice none 0 0) w w := ⟨World.ownsRow_nil _ _ _ _, Below.refl _ _⟩
theorem infoStr : (Tryd.prog.info? 9).map (fun i => (i.zero, i.size, i.bytes)) = some (some (.string ⟨#[]⟩), 1, 16) := by kernel_rfl
theorem infoPart : (Tryd.prog.info? 58).map (fun i => (i.zero, i.size, i.bytes)) = some (some (.agg #[.bool false, .string ⟨#[]⟩]), 2, 24) := by kernel_rfl
theorem ret_slice' {a : Option Addr} {n m cap : Nat} (h : n = m) : Ending.returned (.slice a n cap) = .returned (.slice a m cap) := by rw [h]
namespace Tp
theorem gapsA_snoc (acc : List Bs) (L : List Part) (p : Part) : gapsA acc (L ++ [p]) = if p.gap = true ∧ p.txt ∉ gapsA acc L then gapsA acc L ++ [p.txt] else gapsA acc L := by
  induction L generalizing acc with
  | nil => rfl
  | cons q L ih => exact ih _
theorem take_snoc {α : Type _} {L : List α} {i : Nat} {p : α} (h : L[i]? = some p) : L.take (i + 1) = L.take i ++ [p] := by
  rw [List.take_add_one, h]; rfl
theorem gapsA_take {L : List Part} {i : Nat} {p : Part} (h : L[i]? = some p) : gapsA [] (L.take (i + 1)) = if p.gap = true ∧ p.txt ∉ gapsA [] (L.take i) then gapsA [] (L.take i) ++ [p.txt] else gapsA [] (L.take i) := by
  rw [take_snoc h, gapsA_snoc]
theorem gapsA_length (L : List Part) : ∀ i, (gapsA [] (L.take i)).length ≤ i := by
  intro i
  induction i with
  | zero => simp [gapsA]
  | succ i ih =>
    cases h : L[i]? with
    | none =>
      rw [List.take_of_length_le (by have := List.getElem?_eq_none_iff.1 h; omega)] at ih ⊢
      omega
    | some p =>
      rw [gapsA_take h]
      split
      · rw [List.length_append]; simp; omega
      · omega
end Tp
end Go.Proofs.YtooocllampkibaaDoor
