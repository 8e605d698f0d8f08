/- Plain: a script that is filled: which labels are right, what is looked up, what the whole answers. -/
import Derived.Test.YtooocllampkibaaDoorTmplRow
namespace Go.Proofs.YtooocllampkibaaDoor
open Go.ChangeShapes Go.WideShapes Go.ChangeAt Go.RowKit
set_option linter.unusedVariables false
namespace Tp
abbrev Lab := Bs × Bs
def keys (l : List Lab) : List Bs := l.map (·.1)
/-- the first fault of labels -/
def labsE : List Bs → List Lab → Option Int
  | _, [] => none
  | K, x :: l => if lab x.1 = false then some 3 else if x.1 ∈ K then some 6 else labsE (K ++ [x.1]) l
/-- what stands beside a key -/
def lookT (l : List Lab) (k : Bs) : Bs := l.foldl (fun t x => if x.1 = k then x.2 else t) k
def filV (s : Bs) (l : List Lab) : Bs × Int :=
  if 2000 < s.length then ([], 2) else
  match scr s with
  | none => ([], 3)
  | some P => if 8 < l.length then ([], 2) else
    match labsE [] l with
    | some e => ([], e)
    | none => if (gapsA [] P).all (fun g => decide (g ∈ keys l)) then (if (fill (lookT l) P).length ≤ 2000 then (fill (lookT l) P, 0) else ([], 2)) else ([], 5)
theorem filV_long {s : Bs} {l : List Lab} (h : 2000 < s.length) : filV s l = ([], 2) := if_pos h
theorem filV_form {s : Bs} {l : List Lab} (h : ¬ 2000 < s.length) (h1 : scr s = none) : filV s l = ([], 3) := by
  unfold filV; rw [if_neg h, h1]
theorem filV_many {s : Bs} {l : List Lab} {P : List Part} (h : ¬ 2000 < s.length) (h1 : scr s = some P) (h2 : 8 < l.length) : filV s l = ([], 2) := by
  unfold filV; rw [if_neg h, h1]; exact if_pos h2
theorem filV_labs {s : Bs} {l : List Lab} {P : List Part} {e : Int} (h : ¬ 2000 < s.length) (h1 : scr s = some P) (h2 : ¬ 8 < l.length) (h3 : labsE [] l = some e) : filV s l = ([], e) := by
  unfold filV; rw [if_neg h, h1]; simp only []; rw [if_neg h2, h3]
theorem filV_gap {s : Bs} {l : List Lab} {P : List Part} {g : Bs} (h : ¬ 2000 < s.length) (h1 : scr s = some P) (h2 : ¬ 8 < l.length) (h3 : labsE [] l = none) (h4 : g ∈ gapsA [] P) (h5 : g ∉ keys l) : filV s l = ([], 5) := by
  unfold filV; rw [if_neg h, h1]; simp only []; rw [if_neg h2, h3]; simp only []
  rw [if_neg (fun hh => h5 (by simpa using List.all_eq_true.1 hh g h4))]
theorem filV_large {s : Bs} {l : List Lab} {P : List Part} (h : ¬ 2000 < s.length) (h1 : scr s = some P) (h2 : ¬ 8 < l.length) (h3 : labsE [] l = none) (h4 : ∀ g, g ∈ gapsA [] P → g ∈ keys l) (h5 : 2000 < (fill (lookT l) P).length) : filV s l = ([], 2) := by
  unfold filV; rw [if_neg h, h1]; simp only []; rw [if_neg h2, h3]; simp only []
  rw [if_pos (List.all_eq_true.2 fun g hg => by simpa using h4 g hg), if_neg (by omega)]
theorem filV_done {s : Bs} {l : List Lab} {P : List Part} (h : ¬ 2000 < s.length) (h1 : scr s = some P) (h2 : ¬ 8 < l.length) (h3 : labsE [] l = none) (h4 : ∀ g, g ∈ gapsA [] P → g ∈ keys l) (h5 : (fill (lookT l) P).length ≤ 2000) : filV s l = (fill (lookT l) P, 0) := by
  unfold filV; rw [if_neg h, h1]; simp only []; rw [if_neg h2, h3]; simp only []
  rw [if_pos (List.all_eq_true.2 fun g hg => by simpa using h4 g hg), if_pos h5]
/-- the first j labels are right -/
def LbS (l : List Lab) (j : Nat) : Prop := labsE [] l = labsE (keys (l.take j)) (l.drop j)
theorem LbS.zero (l : List Lab) : LbS l 0 := rfl
theorem drop_some {α : Type _} {L : List α} {i : Nat} {c : α} (h : L[i]? = some c) : L.drop i = c :: L.drop (i + 1) := by
  obtain ⟨h1, h2⟩ := List.getElem?_eq_some_iff.1 h
  rw [List.drop_eq_getElem_cons h1, h2]
theorem LbS.form {l : List Lab} {j : Nat} {x : Lab} (h : LbS l j) (hx : l[j]? = some x) (hl : lab x.1 = false) : labsE [] l = some 3 := by
  unfold LbS at h
  rw [h, drop_some hx, labsE, if_pos hl]
theorem LbS.dup {l : List Lab} {j : Nat} {x : Lab} (h : LbS l j) (hx : l[j]? = some x) (hl : lab x.1 = true) (hd : x.1 ∈ keys (l.take j)) : labsE [] l = some 6 := by
  unfold LbS at h
  rw [h, drop_some hx, labsE, if_neg (by simp [hl]), if_pos hd]
theorem keys_take {l : List Lab} {j : Nat} {x : Lab} (hx : l[j]? = some x) : keys (l.take (j + 1)) = keys (l.take j) ++ [x.1] := by
  rw [take_snoc hx]; simp [keys]
theorem LbS.succ {l : List Lab} {j : Nat} {x : Lab} (h : LbS l j) (hx : l[j]? = some x) (hl : lab x.1 = true) (hd : x.1 ∉ keys (l.take j)) : LbS l (j + 1) := by
  unfold LbS at *
  rw [h, drop_some hx, labsE, if_neg (by simp [hl]), if_neg hd, keys_take hx]
theorem LbS.fin {l : List Lab} {j : Nat} (h : LbS l j) (hj : l.length ≤ j) : labsE [] l = none := by
  unfold LbS at h
  rw [h, List.drop_eq_nil_of_le hj]; rfl
theorem not_keys_zero (l : List Lab) (k : Bs) : k ∉ keys (l.take 0) := by simp [keys]
theorem not_keys_succ {l : List Lab} {q : Nat} {y : Lab} {k : Bs} (h : k ∉ keys (l.take q)) (hy : l[q]? = some y) (hn : y.1 ≠ k) : k ∉ keys (l.take (q + 1)) := by
  rw [keys_take hy]; simp; exact ⟨h, fun e => hn e.symm⟩
theorem keys_hit {l : List Lab} {q j : Nat} {y : Lab} (hy : l[q]? = some y) (hq : q < j) : y.1 ∈ keys (l.take j) := by
  refine List.mem_map.2 ⟨y, ?_, rfl⟩
  refine List.mem_of_getElem? (i := q) ?_
  rw [List.getElem?_take, if_pos hq]; exact hy
theorem keys_dec {l : List Lab} {q : Nat} {y : Lab} {k : Bs} (hy : l[q]? = some y) : decide (k ∈ keys (l.take (q + 1))) = (decide (k ∈ keys (l.take q)) || decide (y.1 = k)) := by
  rw [keys_take hy]
  simp [eq_comm]
theorem lookT_zero (l : List Lab) (k : Bs) : lookT (l.take 0) k = k := rfl
theorem lookT_succ {l : List Lab} {q : Nat} {y : Lab} (k : Bs) (hy : l[q]? = some y) : lookT (l.take (q + 1)) k = if y.1 = k then y.2 else lookT (l.take q) k := by
  rw [take_snoc hy]; simp [lookT]
/-- the first j of the gaps are among the keys -/
def AllIn (l : List Lab) (G : List Bs) (j : Nat) : Prop := ∀ i g, i < j → G[i]? = some g → g ∈ keys l
theorem AllIn.zero (l : List Lab) (G : List Bs) : AllIn l G 0 := fun i g h => absurd h (by omega)
theorem AllIn.succ {l : List Lab} {G : List Bs} {j : Nat} {g : Bs} (h : AllIn l G j) (hg : G[j]? = some g) (hk : g ∈ keys l) : AllIn l G (j + 1) := fun i x hi hx => by
  by_cases e : i = j
  · subst e; rw [hg] at hx; cases hx; exact hk
  · exact h i x (by omega) hx
theorem AllIn.fin {l : List Lab} {G : List Bs} (h : AllIn l G G.length) : ∀ g, g ∈ G → g ∈ keys l := fun g hg => by
  obtain ⟨i, hi, rfl⟩ := List.getElem_of_mem hg
  exact h i _ hi (List.getElem?_eq_getElem hi)
theorem fill_take {f : Bs → Bs} {P : List Part} {i : Nat} {p : Part} (h : P[i]? = some p) : fill f (P.take (i + 1)) = fill f (P.take i) ++ (if p.gap then f p.txt else p.txt) := by
  rw [take_snoc h, fill_append]; simp [fill]
theorem fill_take_le (f : Bs → Bs) (P : List Part) (i : Nat) : (fill f (P.take i)).length ≤ (fill f P).length := by
  have : fill f P = fill f (P.take i) ++ fill f (P.drop i) := by rw [← fill_append, List.take_append_drop]
  rw [this, List.length_append]; omega
end Tp
open Tp
theorem bts_append (a b : Bs) : bts a ++ bts b = bts (a ++ b) := by
  apply ByteArray.ext
  simp [bts, ByteArray.data_append]
theorem bts_eq (a b : Bs) : ((bts a).toList == (bts b).toList) = decide (a = b) := by
  rw [bts_toList, bts_toList]
  by_cases h : a = b
  · subst h; simp
  · simp [h]
def LabsAt (w : World) (b off : Nat) (L : List Lab) : Prop := ∀ i p, L[i]? = some p → w.cell? ⟨b, off + i * 2, none⟩ = some (.string (bts p.1)) ∧ w.cell? ⟨b, off + i * 2 + 1, none⟩ = some (.string (bts p.2))
/-- labels in a row -/
def Labs (w : World) (a : Option Addr) (L : List Lab) : Prop := 0 < L.length → ∃ b off, a = some ⟨b, off, none⟩ ∧ b < w.heap.size ∧ LabsAt w b off L
theorem LabsAt.below {w w' : World} {b off : Nat} {L : List Lab} (h : LabsAt w b off L) {B : Nat} (hb : Below B w w') (hB : b < B) : LabsAt w' b off L := fun i s hi => by
  obtain ⟨h1, h2⟩ := h i s hi
  exact ⟨(hb.cell (p := ⟨b, _, none⟩) hB).trans h1, (hb.cell (p := ⟨b, _, none⟩) hB).trans h2⟩
theorem Labs.below {w w' : World} {a : Option Addr} {L : List Lab} (h : Labs w a L) {B : Nat} (hb : Below B w w') (hB : w.heap.size ≤ B) : Labs w' a L := fun hl => by
  obtain ⟨b, off, e, h1, h2⟩ := h hl
  exact ⟨b, off, e, Nat.lt_of_lt_of_le h1 hb.size, h2.below hb (by omega)⟩
theorem Labs.nil (w : World) (a : Option Addr) : Labs w a [] := fun h => absurd h (by simp)
def LabSizes (l : List Lab) : Prop := ∀ x, x ∈ l → x.1.length ≤ 140737488351232 ∧ x.2.length ≤ 140737488351232
theorem ret_si' {a : ByteArray} {c : Bs × Int} {b : Int} (h : c = (lst a, b)) : Ending.returned (.tuple #[.string a, .int .i64 b]) = .returned (.tuple #[.string (bts c.1), .int .i64 c.2]) := by rw [h, bts_lst]
end Go.Proofs.YtooocllampkibaaDoor
