/- Small lemmas that this seat's walks share: how a result reads, what stays below a block. -/
import Derived.Test.YtkemlckmfgacdaaGreatDoorRows
import Derived.WalkKit
import Derived.ProofKit
import Derived.OpenShut
import Derived.Handy
import Derived.WalkSmall
import Derived.BigQuiet
import Derived.Lib.Hide
import Derived.Deep.QuietTactic
import Derived.Deep.Draws
import Derived.Lib.IndexMore
import Derived.Laws.Strings2
import Derived.Laws.IdiomStrings
import Derived.WalkSpells
import Derived.Deep.LoopGhost
namespace Go.Proofs.YtkemlckmfgacdaaGreatDoor
set_option maxRecDepth 20000
set_option maxHeartbeats 64000000
open Go.ChangeShapes Go.WideShapes Go.ChangeAt Go.RowKit
theorem hid {p : Prop} (h : p) : Go.RowKit.Hid p := h
theorem lr {n : Nat} : n ≤ n := Nat.le_refl n
theorem qa1 {α : Type _} {xs : List α} {i : Nat} {a : α} : xs.toArray.setIfInBounds i a = (xs.set i a).toArray := by simp
theorem qa2 {α : Type _} {x a : α} {xs : List α} : (x :: xs).set 0 a = a :: xs := rfl
theorem qa3 {α : Type _} {x a : α} {xs : List α} {i : Nat} : (x :: xs).set (i + 1) a = x :: xs.set i a := rfl
theorem be0 {w W : World} {c : Obj} (h : W = w.alloc c) : Below w.heap.size w W := by rw [h]; exact (Below.refl _ _).alloc (Nat.le_refl _) _
theorem ret_int {k : IntKind} {a b : Int} (h : a = b) : Ending.returned (.int k a) = .returned (.int k b) := by rw [h]
theorem ret_bool {a b : Bool} (h : a = b) : Ending.returned (.bool a) = .returned (.bool b) := by rw [h]
theorem bcell {W w1 : World} (hb : Below W.heap.size W w1) : (∀ b o, b < W.heap.size → w1.cell? ⟨b, o, none⟩ = W.cell? ⟨b, o, none⟩) ∧ (∀ b o, b < W.heap.size → w1.frozen? ⟨b, o, none⟩ = W.frozen? ⟨b, o, none⟩) :=
 ⟨fun b o h => hb.cell (p := ⟨b, o, none⟩) h, fun b o h => hb.frozen (p := ⟨b, o, none⟩) h⟩
theorem cell_set (w : World) (a b : Addr) (v : Value) : (w.setCell a v).cell? b = if a = b then (w.cell? b).map (fun _ => v) else w.cell? b := by
 by_cases h : a = b
 ·subst h
  rw [if_pos rfl]
  cases hc : w.cell? a with
  | some u => rw [World.cell?_setCell_same w a v hc]; rfl
  | none =>
   simp only [World.cell?, World.setCell, Array.getElem?_modify, if_true] at hc ⊢
   cases hh : w.heap[a.block]? with
   | none => rfl
   | some x =>
    cases x <;> simp_all
 ·rw [if_neg h]; exact World.cell?_setCell_other w a b v h
theorem quiet_left {P : Program} {f : FuncId} {args : Array Value} {w : World} {n : Nat} {v : Value}
  (h : Calls P f args (w.drewN n) fun e w' => e = .returned v ∧ w.drewN n = w') : Calls P f args (w.drewN n) fun e w'' => e = .returned v ∧ ∃ m, w'' = w.drewN m :=
 h.mono fun _ _ ⟨he, hm⟩ => ⟨he, n, hm.symm⟩
theorem quiet_add_left {P : Program} {f : FuncId} {args : Array Value} {w : World} {a n : Nat} {v : Value}
  (h : Calls P f args (w.drewN (a + n)) fun e w' => e = .returned v ∧ w.drewN (a + n) = w') : Calls P f args (w.drewN (a + n)) fun e w'' => e = .returned v ∧ ∃ m, w'' = w.drewN (a + m) :=
 h.mono fun _ _ ⟨he, hm⟩ => ⟨he, n, hm.symm⟩
def Drawn (w w' : World) : Prop := ∃ q, w' = w.drewN q
theorem Drawn.refl (w : World) : Drawn w w := ⟨0, rfl⟩
theorem Drawn.drewN (w : World) (q : Nat) : Drawn w (w.drewN q) := ⟨q, rfl⟩
theorem Drawn.below {w w' : World} (h : Drawn w w') (B : Nat) : Below B w w' := by
 obtain ⟨q, rfl⟩ := h; exact below_drewN (Below.refl _ _) q
theorem below11 {S B : Nat} {w w' : World} {v0 v1 v2 v3 v4 v5 v6 v7 v8 v9 v10 : Value} (hb : Below S w w') (hB : B < S) (h0 : w.cell? ⟨B, 0, none⟩ = some v0) (h1 : w.cell? ⟨B, 1, none⟩ = some v1) (h2 : w.cell? ⟨B, 2, none⟩ = some v2) (h3 : w.cell? ⟨B, 3, none⟩ = some v3) (h4 : w.cell? ⟨B, 4, none⟩ = some v4) (h5 : w.cell? ⟨B, 5, none⟩ = some v5) (h6 : w.cell? ⟨B, 6, none⟩ = some v6) (h7 : w.cell? ⟨B, 7, none⟩ = some v7) (h8 : w.cell? ⟨B, 8, none⟩ = some v8) (h9 : w.cell? ⟨B, 9, none⟩ = some v9) (h10 : w.cell? ⟨B, 10, none⟩ = some v10) : w'.cell? ⟨B, 0, none⟩ = some v0 ∧ w'.cell? ⟨B, 1, none⟩ = some v1 ∧ w'.cell? ⟨B, 2, none⟩ = some v2 ∧ w'.cell? ⟨B, 3, none⟩ = some v3 ∧ w'.cell? ⟨B, 4, none⟩ = some v4 ∧ w'.cell? ⟨B, 5, none⟩ = some v5 ∧ w'.cell? ⟨B, 6, none⟩ = some v6 ∧ w'.cell? ⟨B, 7, none⟩ = some v7 ∧ w'.cell? ⟨B, 8, none⟩ = some v8 ∧ w'.cell? ⟨B, 9, none⟩ = some v9 ∧ w'.cell? ⟨B, 10, none⟩ = some v10 := ⟨(hb.cell (p := ⟨B, 0, none⟩) hB).trans h0, (hb.cell (p := ⟨B, 1, none⟩) hB).trans h1, (hb.cell (p := ⟨B, 2, none⟩) hB).trans h2, (hb.cell (p := ⟨B, 3, none⟩) hB).trans h3, (hb.cell (p := ⟨B, 4, none⟩) hB).trans h4, (hb.cell (p := ⟨B, 5, none⟩) hB).trans h5, (hb.cell (p := ⟨B, 6, none⟩) hB).trans h6, (hb.cell (p := ⟨B, 7, none⟩) hB).trans h7, (hb.cell (p := ⟨B, 8, none⟩) hB).trans h8, (hb.cell (p := ⟨B, 9, none⟩) hB).trans h9, (hb.cell (p := ⟨B, 10, none⟩) hB).trans h10⟩
theorem below15 {S B : Nat} {w w' : World} {v0 v1 v2 v3 v4 v5 v6 v7 v8 v9 v10 v11 v12 v13 v14 : Value} (hb : Below S w w') (hB : B < S) (h0 : w.cell? ⟨B, 0, none⟩ = some v0) (h1 : w.cell? ⟨B, 1, none⟩ = some v1) (h2 : w.cell? ⟨B, 2, none⟩ = some v2) (h3 : w.cell? ⟨B, 3, none⟩ = some v3) (h4 : w.cell? ⟨B, 4, none⟩ = some v4) (h5 : w.cell? ⟨B, 5, none⟩ = some v5) (h6 : w.cell? ⟨B, 6, none⟩ = some v6) (h7 : w.cell? ⟨B, 7, none⟩ = some v7) (h8 : w.cell? ⟨B, 8, none⟩ = some v8) (h9 : w.cell? ⟨B, 9, none⟩ = some v9) (h10 : w.cell? ⟨B, 10, none⟩ = some v10) (h11 : w.cell? ⟨B, 11, none⟩ = some v11) (h12 : w.cell? ⟨B, 12, none⟩ = some v12) (h13 : w.cell? ⟨B, 13, none⟩ = some v13) (h14 : w.cell? ⟨B, 14, none⟩ = some v14) : w'.cell? ⟨B, 0, none⟩ = some v0 ∧ w'.cell? ⟨B, 1, none⟩ = some v1 ∧ w'.cell? ⟨B, 2, none⟩ = some v2 ∧ w'.cell? ⟨B, 3, none⟩ = some v3 ∧ w'.cell? ⟨B, 4, none⟩ = some v4 ∧ w'.cell? ⟨B, 5, none⟩ = some v5 ∧ w'.cell? ⟨B, 6, none⟩ = some v6 ∧ w'.cell? ⟨B, 7, none⟩ = some v7 ∧ w'.cell? ⟨B, 8, none⟩ = some v8 ∧ w'.cell? ⟨B, 9, none⟩ = some v9 ∧ w'.cell? ⟨B, 10, none⟩ = some v10 ∧ w'.cell? ⟨B, 11, none⟩ = some v11 ∧ w'.cell? ⟨B, 12, none⟩ = some v12 ∧ w'.cell? ⟨B, 13, none⟩ = some v13 ∧ w'.cell? ⟨B, 14, none⟩ = some v14 := ⟨(hb.cell (p := ⟨B, 0, none⟩) hB).trans h0, (hb.cell (p := ⟨B, 1, none⟩) hB).trans h1, (hb.cell (p := ⟨B, 2, none⟩) hB).trans h2, (hb.cell (p := ⟨B, 3, none⟩) hB).trans h3, (hb.cell (p := ⟨B, 4, none⟩) hB).trans h4, (hb.cell (p := ⟨B, 5, none⟩) hB).trans h5, (hb.cell (p := ⟨B, 6, none⟩) hB).trans h6, (hb.cell (p := ⟨B, 7, none⟩) hB).trans h7, (hb.cell (p := ⟨B, 8, none⟩) hB).trans h8, (hb.cell (p := ⟨B, 9, none⟩) hB).trans h9, (hb.cell (p := ⟨B, 10, none⟩) hB).trans h10, (hb.cell (p := ⟨B, 11, none⟩) hB).trans h11, (hb.cell (p := ⟨B, 12, none⟩) hB).trans h12, (hb.cell (p := ⟨B, 13, none⟩) hB).trans h13, (hb.cell (p := ⟨B, 14, none⟩) hB).trans h14⟩
end Go.Proofs.YtkemlckmfgacdaaGreatDoor
namespace Go.Proofs.YtkemlckmfgacdaaGreatDoor.Tp
set_option maxRecDepth 20000
set_option maxHeartbeats 64000000
set_option linter.unusedVariables false
abbrev Bs := List UInt8
def small (c : UInt8) : Bool := decide (97 ≤ c.toNat ∧ c.toNat ≤ 122)
def labC (c : UInt8) : Bool := small c || decide (48 ≤ c.toNat ∧ c.toNat ≤ 57) || decide (c.toNat = 45)
def lab : Bs → Bool
 | [] => false
 | c :: s => small c && s.all labC && decide (s.length < 20)
def cutB (c : UInt8) : Bs → Bs × Bs × Bool
 | [] => ([], [], false)
 | x :: s => if x = c then ([], s, true) else (x :: (cutB c s).1, (cutB c s).2.1, (cutB c s).2.2)
theorem cutB_len (c : UInt8) : ∀ s, (cutB c s).2.1.length ≤ s.length
 | [] => Nat.le_refl _
 | x :: s => by
  rw [cutB]
  split
  ·simp
  ·have := cutB_len c s
   simp
   omega
theorem cutB_miss {c : UInt8} : ∀ {s : Bs}, (cutB c s).2.2 = false → (cutB c s).1 = s ∧ (cutB c s).2.1 = [] ∧ ∀ x, x ∈ s → x ≠ c
 | [], _ => ⟨rfl, rfl, fun x h => by cases h⟩
 | x :: s, h => by
  rw [cutB] at h ⊢
  split at h
  ·cases h
  ·rename_i hx
   obtain ⟨h1, h2, h3⟩ := cutB_miss h
   rw [if_neg hx]
   refine ⟨by simp [h1], h2, fun y hy => ?_⟩
   rcases List.mem_cons.1 hy with rfl | hy
   ·exact hx
   ·exact h3 y hy
theorem cutB_hit {c : UInt8} : ∀ {s : Bs}, (cutB c s).2.2 = true → s = (cutB c s).1 ++ c :: (cutB c s).2.1 ∧ ∀ x, x ∈ (cutB c s).1 → x ≠ c
 | [], h => by cases h
 | x :: s, h => by
  rw [cutB] at h ⊢
  split at h
  ·rename_i hx
   rw [if_pos hx, hx]
   exact ⟨rfl, fun y hy => by cases hy⟩
  ·rename_i hx
   obtain ⟨h1, h2⟩ := cutB_hit h
   rw [if_neg hx]
   refine ⟨by simp only [List.cons_append]; rw [← h1], fun y hy => ?_⟩
   rcases List.mem_cons.1 hy with rfl | hy
   ·exact hx
   ·exact h2 y hy
theorem index_one (c : UInt8) : ∀ s : Bs, Lib.index s [c] = if (cutB c s).2.2 then ((cutB c s).1.length : Int) else -1
 | [] => rfl
 | x :: s => by
  have ih := index_one c s
  rw [cutB]
  by_cases hx : x = c
  ·subst hx
   simp [Lib.index]
  ·simp only [if_neg hx]
   have hcx : ¬ c = x := fun e => hx e.symm
   have : Lib.index (x :: s) [c] = if Lib.index s [c] = -1 then -1 else Lib.index s [c] + 1 := by
    simp [Lib.index, hcx]
   rw [this, ih]
   cases hc : (cutB c s).2.2 with
   | false => simp
   | true =>
    simp
theorem cut_one (c : UInt8) (s : Bs) : Lib.cut s [c] = cutB c s := by
 unfold Lib.cut
 rw [index_one]
 cases hc : (cutB c s).2.2 with
 | false =>
  obtain ⟨h1, h2, _⟩ := cutB_miss hc
  rw [if_neg (by simp)]
  apply Prod.ext
  ·exact h1.symm
  ·apply Prod.ext
   ·exact h2.symm
   ·exact hc.symm
 | true =>
  obtain ⟨h1, _⟩ := cutB_hit hc
  obtain ⟨f, r, hf, hr⟩ : ∃ f r, (cutB c s).1 = f ∧ (cutB c s).2.1 = r := ⟨_, _, rfl, rfl⟩
  rw [hf, hr] at h1
  rw [if_pos rfl, hf, if_pos (by omega), Int.toNat_natCast]
  apply Prod.ext
  ·rw [hf, h1]; simp
  ·apply Prod.ext
   ·rw [hr, h1]
    show List.drop (f.length + 1) (f ++ c :: r) = r
    rw [List.drop_append]
    simp
   ·exact hc.symm
structure Part where
 gap : Bool
 txt : Bs
def D : UInt8 := 36
def O : UInt8 := 123
def E : UInt8 := 125
def scrN (rec : Bs → Option (List Part)) (d : UInt8) (s' : Bs) : Option (List Part) :=
 if d = D then (rec s').map (⟨false, [D]⟩ :: ·) else
 if (cutB E (d :: s')).2.2 = true ∧ d = O ∧ lab ((cutB E (d :: s')).1.drop 1) = true then (rec (cutB E (d :: s')).2.1).map (⟨true, (cutB E (d :: s')).1.drop 1⟩ :: ·) else none
def scrK : Nat → Bs → Option (List Part)
 | 0, _ => none
 | k + 1, [] => some []
 | k + 1, [c] => if c ≠ D then (scrK k []).map (⟨false, [c]⟩ :: ·) else none
 | k + 1, c :: d :: s' => if c ≠ D then (scrK k (d :: s')).map (⟨false, [c]⟩ :: ·) else scrN (scrK k) d s'
def scr (s : Bs) : Option (List Part) := scrK (s.length + 1) s
def gapsA (acc : List Bs) : List Part → List Bs
 | [] => acc
 | p :: l => gapsA (if p.gap = true ∧ p.txt ∉ acc then acc ++ [p.txt] else acc) l
def fill (by' : Bs → Bs) : List Part → Bs
 | [] => []
 | p :: l => (if p.gap then by' p.txt else p.txt) ++ fill by' l
end Go.Proofs.YtkemlckmfgacdaaGreatDoor.Tp
namespace Go.Proofs.YtkemlckmfgacdaaGreatDoor
set_option maxRecDepth 20000
set_option maxHeartbeats 64000000
set_option linter.unusedVariables false
def lst (s : ByteArray) : List UInt8 := s.data.toList
theorem lst_len (s : ByteArray) : (lst s).length = s.size := by
 unfold lst
 exact Array.length_toList
theorem lst_at {s : ByteArray} {j : Nat} {c : UInt8} (h : (lst s)[j]? = some c) (hj : j < s.size) : s[j]'hj = c := by
 have := (List.getElem?_eq_some_iff.1 h)
 obtain ⟨h1, h2⟩ := this
 rw [← h2]
 rfl
end Go.Proofs.YtkemlckmfgacdaaGreatDoor
namespace Go.Proofs.YtkemlckmfgacdaaGreatDoor
set_option maxRecDepth 20000
set_option maxHeartbeats 64000000
open Go.ChangeShapes Go.WideShapes Go.ChangeAt Go.RowKit
set_option linter.unusedVariables false
open Tp
namespace Tp
set_option maxRecDepth 20000
set_option maxHeartbeats 64000000
def PG (L : Bs) (j : Nat) : Prop := ∀ i c, i < j → L[i]? = some c → labC c = true ∧ (i = 0 → small c = true)
theorem PG.zero (L : Bs) : PG L 0 := fun i c h => absurd h (by omega)
theorem PG.succ {L : Bs} {j : Nat} {c : UInt8} (h : PG L j) (hj : L[j]? = some c) (h1 : labC c = true) (h2 : j = 0 → small c = true) : PG L (j + 1) := fun i c' hi hc' => by
 by_cases e : i = j
 ·subst e; rw [hj] at hc'; cases hc'; exact ⟨h1, h2⟩
 ·exact h i c' (by omega) hc'
theorem lab_true {L : Bs} (h1 : 1 ≤ L.length) (h2 : L.length ≤ 20) (h : PG L L.length) : lab L = true := by
 cases L with
 | nil => simp at h1
 | cons c s =>
  have hc := h 0 c (by simp) rfl
  have hs : s.all labC = true := List.all_eq_true.2 fun x hx => by
   obtain ⟨i, hi, rfl⟩ := List.getElem_of_mem hx
   exact (h (i + 1) s[i] (by simpa using hi) (by simp)).1
  simp only [List.length_cons] at h2
  rw [lab, hc.2 rfl, hs]
  simp
  omega
theorem lab_len {L : Bs} (h : L.length < 1 ∨ 20 < L.length) : lab L = false := by
 cases L with
 | nil => rfl
 | cons c s =>
  simp only [List.length_cons] at h
  rw [lab]
  have : decide (s.length < 20) = false := by simp; omega
  rw [this]; simp
theorem lab_bad {L : Bs} {j : Nat} {c : UInt8} (hj : L[j]? = some c) (h : labC c = false ∨ (j = 0 ∧ small c = false)) : lab L = false := by
 cases L with
 | nil => rfl
 | cons d s =>
  rw [lab]
  cases j with
  | zero =>
   have e : d = c := by simpa using hj
   subst e
   have : small d = false := by
    rcases h with h | h
    ·unfold labC at h
     cases hs : small d with
     | false => rfl
     | true => rw [hs] at h; simp at h
    ·exact h.2
   rw [this]; rfl
  | succ j =>
   have hc : labC c = false := by
    rcases h with h | h
    ·exact h
    ·omega
   have hj' : s[j]? = some c := by simpa using hj
   have : s.all labC = false := by
    cases ha : s.all labC with
    | false => rfl
    | true => rw [List.all_eq_true.1 ha c (List.mem_of_getElem? hj')] at hc; cases hc
   rw [this]; simp
end Tp
theorem gLabel_any (s : ByteArray) (w : World) (hs : s.size ≤ 9223372036854775807) : Calls Tryz.prog 35 #[.string s] w fun e w' => e = .returned (.bool (lab (lst s))) ∧ Below w.heap.size w w' := by
 obtain ⟨n, hn⟩ : ∃ n, s.size = n := ⟨_, rfl⟩
 have HN := hid hn
 rw [hn] at hs
 go_enter Tryz.func35, Tryz.ntmps35
 go_wp2_with fail
 go_loopg [7] n (fun g y wr => ∃ j : Nat, j + g = n ∧ y = .int .i64 (j : Int) ∧ Hid (PG (lst s) j) ∧ Hid (Below w.heap.size w wr))
 case atStart => exact ⟨0, by omega, rfl, hid (PG.zero _), hid (Below.refl _ _)⟩
 case round =>
  obtain ⟨j, hj, rfl, HP, HB⟩ := hrel
  by_cases hjn : j < n
  ·obtain ⟨c, hc⟩ : ∃ c, (lst s)[j]? = some c := ⟨_, List.getElem?_eq_getElem (by rw [lst_len, hn]; exact hjn)⟩
   have hjs : j < s.size := by omega
   obtain ⟨z, hz⟩ : ∃ z : Int, (c.toNat : Int) = z := ⟨_, rfl⟩
   have gj : ∀ h : j < s.size, ((s[j]'h).toNat : Int) = z := fun h => by rw [lst_at hc h]; exact hz
   have hj1 : (0 : Int) ≤ (j : Int) := by omega
   have hj2 : (j : Int) < (n : Int) := by omega
   have hz0 : 0 ≤ z := by omega
   have HC := hid hc
   have HZ := hid hz
   have HSM : Hid (small c = decide (97 ≤ z ∧ z ≤ 122)) := hid (by rw [small]; congr 1; apply propext; omega)
   have HLC : Hid (labC c = (decide (97 ≤ z ∧ z ≤ 122) || decide (48 ≤ z ∧ z ≤ 57) || decide (z = 45))) := hid (by
    rw [labC, HSM.out]
    congr 1
    ·congr 1; apply decide_eq_decide.2; omega
    ·apply decide_eq_decide.2; omega)
   clear hc hz
   by_cases hsm : 97 ≤ z ∧ z ≤ 122
   ·obtain ⟨s1, s2⟩ := hsm
    have HQ : Hid (PG (lst s) (j + 1)) := hid (HP.out.succ HC.out (by rw [HLC.out]; first | (simp; done) | (simp; omega)) (fun h => by first | omega | (rw [HSM.out]; simp; omega)))
    go_wp2_with fail
    go_roundg (n - (j + 1))
    case measure => omega
    case rel => exact ⟨j + 1, by omega, by simp, HQ, HB⟩
   have hcase : (j = 0 ∧ z < 97) ∨ (j = 0 ∧ 97 ≤ z ∧ 122 < z) ∨ (0 < j ∧ z < 97 ∧ z = 45) ∨ (0 < j ∧ z < 97 ∧ z ≠ 45 ∧ z < 48) ∨ (0 < j ∧ z < 97 ∧ z ≠ 45 ∧ 48 ≤ z ∧ z ≤ 57) ∨ (0 < j ∧ z < 97 ∧ z ≠ 45 ∧ 57 < z) ∨ (0 < j ∧ 97 ≤ z ∧ 122 < z) := by omega
   clear hsm
   rcases hcase with ⟨rfl, t1⟩ | ⟨rfl, t1, t2⟩ | ⟨t0, t1, rfl⟩ | ⟨t0, t1, t2, t3⟩ | ⟨t0, t1, t2, t3, t4⟩ | ⟨t0, t1, t2, t3⟩ | ⟨t0, t1, t2⟩
   ·have HV : Hid (lab (lst s) = false) := hid (lab_bad HC.out (by right; exact ⟨by omega, by rw [HSM.out]; simp; omega⟩))
    go_wp2_with fail
    go_ret
    exact ⟨ret_bool HV.out.symm, HB.out⟩
   ·have hz122 : ¬ z ≤ 122 := by omega
    have HV : Hid (lab (lst s) = false) := hid (lab_bad HC.out (by right; exact ⟨by omega, by rw [HSM.out]; simp; omega⟩))
    go_wp2_with fail
    go_ret
    exact ⟨ret_bool HV.out.symm, HB.out⟩
   ·have hj0 : ((j : Int) == 0) = false := by simp; omega
    have HQ : Hid (PG (lst s) (j + 1)) := hid (HP.out.succ HC.out (by rw [HLC.out]; first | (simp; done) | (simp; omega)) (fun h => by first | omega | (rw [HSM.out]; simp; omega)))
    go_wp2_with fail
    go_roundg (n - (j + 1))
    case measure => omega
    case rel => exact ⟨j + 1, by omega, by simp, HQ, HB⟩
   ·have hj0 : ((j : Int) == 0) = false := by simp; omega
    have hz45 : (z != 45) = true := by simpa using t2
    have HV : Hid (lab (lst s) = false) := hid (lab_bad HC.out (by left; rw [HLC.out]; simp; omega))
    go_wp2_with fail
    go_ret
    exact ⟨ret_bool HV.out.symm, HB.out⟩
   ·have hj0 : ((j : Int) == 0) = false := by simp; omega
    have hz45 : (z != 45) = true := by simpa using t2
    have HQ : Hid (PG (lst s) (j + 1)) := hid (HP.out.succ HC.out (by rw [HLC.out]; first | (simp; done) | (simp; omega)) (fun h => by first | omega | (rw [HSM.out]; simp; omega)))
    go_wp2_with fail
    go_roundg (n - (j + 1))
    case measure => omega
    case rel => exact ⟨j + 1, by omega, by simp, HQ, HB⟩
   ·have hj0 : ((j : Int) == 0) = false := by simp; omega
    have hz45 : (z != 45) = true := by simpa using t2
    have HV : Hid (lab (lst s) = false) := hid (lab_bad HC.out (by left; rw [HLC.out]; simp; omega))
    go_wp2_with fail
    go_ret
    exact ⟨ret_bool HV.out.symm, HB.out⟩
   ·have hj0 : ((j : Int) == 0) = false := by simp; omega
    have hz45 : (z != 45) = true := by simp; omega
    have hz122 : ¬ z ≤ 122 := by omega
    have HV : Hid (lab (lst s) = false) := hid (lab_bad HC.out (by left; rw [HLC.out]; simp; omega))
    go_wp2_with fail
    go_ret
    exact ⟨ret_bool HV.out.symm, HB.out⟩
  ·obtain rfl : j = n := by omega
   by_cases h1 : j < 1
   ·have HV : Hid (lab (lst s) = false) := hid (lab_len (by rw [lst_len, HN.out]; omega))
    have h1b : ¬ (1 : Int) ≤ (j : Int) := by omega
    go_wp2_with fail
    go_ret
    exact ⟨ret_bool HV.out.symm, HB.out⟩
   ·by_cases h2 : 20 < j
    ·have HV : Hid (lab (lst s) = false) := hid (lab_len (by rw [lst_len, HN.out]; omega))
     have h1b : (1 : Int) ≤ (j : Int) := by omega
     have h2b : ¬ (j : Int) ≤ 20 := by omega
     go_wp2_with fail
     go_ret
     exact ⟨ret_bool HV.out.symm, HB.out⟩
    ·have HV : Hid (lab (lst s) = true) := hid (lab_true (by rw [lst_len, HN.out]; omega) (by rw [lst_len, HN.out]; omega) (by rw [lst_len, HN.out]; exact HP.out))
     have h1b : (1 : Int) ≤ (j : Int) := by omega
     have h2b : (j : Int) ≤ 20 := by omega
     go_wp2_with fail
     go_ret
     exact ⟨ret_bool HV.out.symm, HB.out⟩
end Go.Proofs.YtkemlckmfgacdaaGreatDoor
namespace Go.Proofs.YtkemlckmfgacdaaGreatDoor
set_option maxRecDepth 20000
set_option maxHeartbeats 64000000
open Go.ChangeShapes Go.WideShapes Go.ChangeAt Go.RowKit
set_option linter.unusedVariables false
open Tp
def LabRow (s : ByteArray) (w wr : World) : Prop := Below w.heap.size w wr ∧ ∀ j c, (lst s)[j]? = some c → wr.cell? ⟨w.heap.size, j, none⟩ = some (.int .u8 (c.toNat : Int))
theorem labRow_start (w : World) (s : ByteArray) (c : Nat) (t : TypeId) (fr : Nat × Nat) : LabRow s w (w.alloc (.cells (bytesRow s c) t fr)).drew := by
 refine ⟨by go_grown, fun j d hj => ?_⟩
 show (w.alloc (.cells (bytesRow s c) t fr)).cell? ⟨w.heap.size, j, none⟩ = _
 have hj' : j < s.data.size := by
  have := (List.getElem?_eq_some_iff.1 hj).1
  rw [lst_len] at this; exact this
 rw [World.cell?_alloc_mark, bytesRow_at s c j hj', ← lst_at hj hj']
 rfl
theorem Label_any (s : ByteArray) (w : World) (hs : s.size ≤ 9223372036854775807) : Calls Tryz.prog 38 #[.string s] w fun e w' => e = .returned (.bool (lab (lst s))) ∧ Below w.heap.size w w' := by
 obtain ⟨n, hn⟩ : ∃ n, s.size = n := ⟨_, rfl⟩
 have HN := hid hn
 rw [hn] at hs
 by_cases h0 : n = 0
 ·have HV : Hid (lab (lst s) = false) := hid (lab_len (by rw [lst_len, HN.out]; omega))
  obtain rfl : s = ⟨#[]⟩ := by
   cases s with
   | mk d => congr 1; exact Array.eq_empty_of_size_eq_zero (by rw [← h0]; exact hn)
  go_enter Tryz.func38, Tryz.ntmps38
  go_wp2_with fail
  go_ret
  exact ⟨ret_bool HV.out.symm, Below.refl _ _⟩
 have hne : ¬ s.toList = [] := fun h => h0 (by
  have e : s.toList.length = s.size := by rw [ByteArray.toList_eq]; exact lst_len s
  rw [← hn, ← e, h]; rfl)
 by_cases h20 : 20 < n
 ·have HV : Hid (lab (lst s) = false) := hid (lab_len (by rw [lst_len, HN.out]; omega))
  go_enter Tryz.func38, Tryz.ntmps38
  go_wp2_with fail
  go_ret
  exact ⟨ret_bool HV.out.symm, Below.refl _ _⟩
 have hne2 : s.toList.isEmpty = false := by
  cases h : s.toList with
  | nil => exact absurd h hne
  | cons _ _ => rfl
 obtain ⟨c, hc⟩ : ∃ c, (lst s)[0]? = some c := ⟨_, List.getElem?_eq_getElem (by rw [lst_len, hn]; omega)⟩
 obtain ⟨z, hz⟩ : ∃ z : Int, (c.toNat : Int) = z := ⟨_, rfl⟩
 have gj : ∀ h : 0 < s.size, ((s[0]'h).toNat : Int) = z := fun h => by rw [lst_at hc h]; exact hz
 have hz0 : 0 ≤ z := by omega
 have hb1 : ¬ (n : Int) > 20 := by omega
 have HC := hid hc
 have HZ := hid hz
 have HSM : Hid (small c = decide (97 ≤ z ∧ z ≤ 122)) := hid (by rw [small]; congr 1; apply propext; omega)
 clear hc hz
 by_cases hsm : 97 ≤ z ∧ z ≤ 122
 ·obtain ⟨s1, s2⟩ := hsm
  have hcv := fun w => run_bytes_of_string (P := Tryz.prog) w 9 41 5 s Tryz.underlying9 Tryz.underlying41 Tryz.underlying5
  have H0 : Hid (∀ d, (lst s)[0]? = some d → small d = true) := hid (fun d hd => by
   have := HC.out; rw [hd] at this; cases this; rw [HSM.out]; simp; omega)
  clear HC HZ HSM
  go_enter Tryz.func38, Tryz.ntmps38
  go_wp2_with fail
  go_loopg [25] n (fun g y wr => ∃ j : Nat, j + g = n ∧ y = .int .i64 (j : Int) ∧ Hid (PG (lst s) j) ∧ LabRow s w wr)
  case atStart => exact ⟨0, by omega, rfl, hid (PG.zero _), labRow_start w s _ _ _⟩
  case round =>
   obtain ⟨j, hj, rfl, HP, hB, hrow⟩ := hrel
   by_cases hjn : j < n
   ·obtain ⟨c, hc⟩ : ∃ c, (lst s)[j]? = some c := ⟨_, List.getElem?_eq_getElem (by rw [lst_len, HN.out]; exact hjn)⟩
    have hr := hrow j c hc
    have HR := hid hrow
    have HB := hid hB
    have hbh := hB.1
    obtain ⟨z, hz⟩ : ∃ z : Int, (c.toNat : Int) = z := ⟨_, rfl⟩
    rw [hz] at hr
    have hj1 : (0 : Int) ≤ (j : Int) := by omega
    have hj2 : (j : Int) < (n : Int) := by omega
    have hz0 : 0 ≤ z := by omega
    have HC := hid hc
    have HSM : Hid (small c = decide (97 ≤ z ∧ z ≤ 122)) := hid (by rw [small]; congr 1; apply propext; omega)
    have HLC : Hid (labC c = (decide (97 ≤ z ∧ z ≤ 122) || decide (48 ≤ z ∧ z ≤ 57) || decide (z = 45))) := hid (by
     rw [labC, HSM.out]
     congr 1
     ·congr 1; apply decide_eq_decide.2; omega
     ·apply decide_eq_decide.2; omega)
    clear hc hz hrow hB
    by_cases hlc : labC c = true
    ·have HQ : Hid (PG (lst s) (j + 1)) := hid (HP.out.succ HC.out hlc (fun h => by subst h; exact H0.out c HC.out))
     rw [HLC.out] at hlc
     have hcase : (97 ≤ z ∧ z ≤ 122) ∨ (z < 97 ∧ 48 ≤ z ∧ z ≤ 57) ∨ (z = 45) := by
      simp at hlc; omega
     rcases hcase with ⟨t1, t2⟩ | ⟨t1, t2, t3⟩ | rfl
     ·go_wp2_with fail
      go_roundg (n - (j + 1))
      case measure => omega
      case rel => exact ⟨j + 1, by omega, by simp, HQ, HB.out, HR.out⟩
     ·go_wp2_with fail
      go_roundg (n - (j + 1))
      case measure => omega
      case rel => exact ⟨j + 1, by omega, by simp, HQ, HB.out, HR.out⟩
     ·go_wp2_with fail
      go_roundg (n - (j + 1))
      case measure => omega
      case rel => exact ⟨j + 1, by omega, by simp, HQ, HB.out, HR.out⟩
    ·have HV : Hid (lab (lst s) = false) := hid (lab_bad HC.out (by left; simpa using hlc))
     rw [HLC.out] at hlc
     have hcase : (z < 97 ∧ z < 48 ∧ z ≠ 45) ∨ (z < 97 ∧ 57 < z) ∨ (97 ≤ z ∧ 122 < z) := by
      simp at hlc; omega
     clear hlc
     rcases hcase with ⟨t1, t2, t3⟩ | ⟨t1, t2⟩ | ⟨t1, t2⟩
     ·have hz45 : (z != 45) = true := by simpa using t3
      go_wp2_with fail
      go_ret
      exact ⟨ret_bool HV.out.symm, HB.out⟩
     ·have hz45 : (z != 45) = true := by simp; omega
      have hz48 : ¬ z < 48 := by omega
      go_wp2_with fail
      go_ret
      exact ⟨ret_bool HV.out.symm, HB.out⟩
     ·have hz45 : (z != 45) = true := by simp; omega
      have hz48 : ¬ z < 48 := by omega
      have hz57 : 57 < z := by omega
      go_wp2_with fail
      go_ret
      exact ⟨ret_bool HV.out.symm, HB.out⟩
   ·obtain rfl : j = n := by omega
    have HV : Hid (lab (lst s) = true) := hid (lab_true (by rw [lst_len, HN.out]; omega) (by rw [lst_len, HN.out]; omega) (by rw [lst_len, HN.out]; exact HP.out))
    have HB := hid hB
    clear hB hrow
    go_wp2_with fail
    go_ret
    exact ⟨ret_bool HV.out.symm, HB.out⟩
 ·have HV : Hid (lab (lst s) = false) := hid (lab_bad HC.out (by right; exact ⟨rfl, by rw [HSM.out]; simp; omega⟩))
  by_cases h1 : z < 97
  ·go_enter Tryz.func38, Tryz.ntmps38
   go_wp2_with fail
   go_ret
   exact ⟨ret_bool HV.out.symm, Below.refl _ _⟩
  ·have h2 : 122 < z := by omega
   go_enter Tryz.func38, Tryz.ntmps38
   go_wp2_with fail
   go_ret
   exact ⟨ret_bool HV.out.symm, Below.refl _ _⟩
end Go.Proofs.YtkemlckmfgacdaaGreatDoor
