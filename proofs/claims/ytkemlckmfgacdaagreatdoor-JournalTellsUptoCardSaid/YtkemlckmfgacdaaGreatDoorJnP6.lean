/- Plain: an event; its faults; its bytes; how it is read; that two ways to read tell the same. -/
import Derived.Test.YtkemlckmfgacdaaGreatDoorJnP5
import Derived.Deep.RegionHeld3
import Derived.Deep.LoopGhost
import Derived.Deep.CutBlock
import Derived.Deep.DeepCutAuto
namespace Go.Proofs.YtkemlckmfgacdaaGreatDoor
set_option maxRecDepth 20000
set_option maxHeartbeats 64000000
def Jm.zJb : Jm.Jb := ⟨[], 0, 0, 0, 0, .mk 0 [] [] 0 [], []⟩
end Go.Proofs.YtkemlckmfgacdaaGreatDoor
namespace Go.Proofs.YtkemlckmfgacdaaGreatDoor.Ev
set_option maxRecDepth 20000
set_option maxHeartbeats 64000000
open Go.Proofs.YtkemlckmfgacdaaGreatDoor.Tp Go.Proofs.YtkemlckmfgacdaaGreatDoor.Jm
set_option linter.unusedVariables false
structure Evt where
 kind : Int
 job : Jb
 n : Int
 id : Int
 ok : Bool
def bare (j : Jb) : Bool := j.user.isEmpty && decide (j.prio = 0) && (decide (j.a = 0) && decide (j.b = 0) && decide (j.c = 0)) && j.after.isEmpty && decide (j.ask.kind = 0) && j.ask.key.isEmpty && j.ask.val.isEmpty && decide (j.ask.num = 0) && j.ask.sub.isEmpty
def Evt.odd (x : Evt) : Bool := decide (x.kind < 1) || decide (5 < x.kind) || (decide (x.kind ≠ 1) && !bare x.job) || (decide (x.kind ≠ 2) && decide (x.n ≠ 0)) || (!(decide (x.kind = 4) || decide (x.kind = 5)) && decide (x.id ≠ 0)) || (decide (x.kind ≠ 4) && x.ok)
def Evt.fault (x : Evt) : Int := if x.odd then 1 else if x.kind = 1 then x.job.fault else if x.n < 0 ∨ 1000000000 < x.n ∨ x.id < 0 ∨ 65535 < x.id then 4 else 0
theorem odd_bools (k : Int) (j : Jb) (N I : Int) (O : Bool) : (Evt.mk k j N I O).odd = (decide (k < 1) || decide (5 < k) || (!(k == 1) && !bare j) || (!(k == 2) && (N != 0)) || (!((k == 4) || (k == 5)) && (I != 0)) || (!(k == 4) && O)) := by
 have h : ∀ (a b : Int), decide (a ≠ b) = !(a == b) := fun a b => by by_cases e : a = b <;> simp [e]
 have g : ∀ (a b : Int), decide (a = b) = (a == b) := fun a b => by by_cases e : a = b <;> simp [e]
 unfold Evt.odd
 simp only [h, g, bne]
def be (n : Nat) : Nat → Bs
 | 0 => []
 | k + 1 => UInt8.ofNat (n / 256 ^ k % 256) :: be n k
def bit (b : Bool) : UInt8 := if b then 1 else 0
def Evt.rest (x : Evt) : Bs := if x.kind = 1 then x.job.text else if x.kind = 2 then be x.n.toNat 4 else if x.kind = 4 then be x.id.toNat 2 ++ [bit x.ok] else if x.kind = 5 then be x.id.toNat 2 else []
def Evt.bytes (x : Evt) : Bs := UInt8.ofNat x.kind.toNat :: x.rest
def num (s : Bs) : Nat := s.foldl (fun u c => u * 256 + c.toNat) 0
theorem be_len (n : Nat) : ∀ k, (be n k).length = k
 | 0 => rfl
 | k + 1 => by rw [be, List.length_cons, be_len n k]
theorem num_snoc (s : Bs) (c : UInt8) : num (s ++ [c]) = num s * 256 + c.toNat := by
 unfold num
 rw [List.foldl_append]
 rfl
theorem num_acc : ∀ (s : Bs) (u : Nat), s.foldl (fun u c => u * 256 + c.toNat) u = u * 256 ^ s.length + num s
 | [], u => by simp [num]
 | c :: s, u => by
  unfold num
  rw [List.foldl_cons, List.foldl_cons, num_acc s, num_acc s (0 * 256 + c.toNat), List.length_cons, Nat.pow_succ]
  rw [Nat.add_mul, Nat.zero_mul, Nat.zero_add, Nat.mul_assoc, Nat.mul_comm 256 (256 ^ s.length), Nat.add_assoc]
theorem num_cons (c : UInt8) (s : Bs) : num (c :: s) = c.toNat * 256 ^ s.length + num s := by
 have := num_acc s c.toNat
 unfold num at this ⊢
 rw [List.foldl_cons, Nat.zero_mul, Nat.zero_add]
 exact this
theorem num_lt : ∀ s : Bs, num s < 256 ^ s.length
 | [] => by simp [num]
 | c :: s => by
  have h1 := num_lt s
  have h2 : c.toNat < 256 := c.toNat_lt
  rw [num_cons, List.length_cons, Nat.pow_succ]
  have h3 : c.toNat * 256 ^ s.length ≤ 255 * 256 ^ s.length := Nat.mul_le_mul_right _ (by omega)
  omega
theorem be_num : ∀ s : Bs, ∀ m, be (m * 256 ^ s.length + num s) s.length = s
 | [], m => rfl
 | c :: s, m => by
  have h2 : c.toNat < 256 := c.toNat_lt
  have hl := num_lt s
  have hp : 0 < 256 ^ s.length := Nat.pow_pos (by decide)
  rw [List.length_cons, be, num_cons]
  have e : m * 256 ^ (s.length + 1) + (c.toNat * 256 ^ s.length + num s) = (m * 256 + c.toNat) * 256 ^ s.length + num s := by
   rw [Nat.pow_succ, Nat.add_mul, Nat.mul_assoc, Nat.mul_comm 256 (256 ^ s.length), Nat.add_assoc]
  rw [e, be_num s, Nat.mul_comm, Nat.mul_add_div hp, Nat.div_eq_of_lt hl, Nat.add_zero]
  congr 1
  apply UInt8.toNat_inj.1
  simp
theorem be_of_num {s : Bs} {k : Nat} (h : s.length = k) : be (num s) k = s := by
 have := be_num s 0
 rw [Nat.zero_mul, Nat.zero_add, h] at this
 exact this
def numI (s : Bs) : Int := (num s : Int)
def rd (b : Bs) : Option Evt := match b with
 | [] => none
 | k :: r => if k.toNat = 1 then (match rdA r with | some j => some ⟨1, j, 0, 0, false⟩ | none => none)
  else if k.toNat = 2 then (if r.length = 4 ∧ num r ≤ 1000000000 then some ⟨2, zJb, numI r, 0, false⟩ else none)
  else if k.toNat = 3 then (if r = [] then some ⟨3, zJb, 0, 0, false⟩ else none)
  else if k.toNat = 4 then (match r with | [x, y, z] => (if z.toNat ≤ 1 then some ⟨4, zJb, 0, numI [x, y], decide (z.toNat = 1)⟩ else none) | _ => none)
  else if k.toNat = 5 then (if r.length = 2 then some ⟨5, zJb, 0, numI r, false⟩ else none)
  else none
def first (k : Nat) (r : Bs) : Option Evt :=
 if k = 1 then (match rdA r with | some j => some ⟨1, j, 0, 0, false⟩ | none => none)
 else if k = 2 then some ⟨2, zJb, numI (r.take 4), 0, false⟩
 else if k = 4 ∧ r.length = 3 then some ⟨4, zJb, 0, numI (r.take 4) / 256, decide (numI (r.take 4) % 256 = 1)⟩
 else if k = 5 then some ⟨5, zJb, 0, numI (r.take 4), false⟩
 else some ⟨(k : Int), zJb, 0, 0, false⟩
theorem own_rd {s : Bs} {j : Jb} (h : rdA s = some j) : j.fault = 0 ∧ j.text = s := by
 unfold rdA own at h
 split at h
 ·split at h
  ·rename_i ht
   injection h with h
   subst h
   exact ht
  ·cases h
 ·cases h
theorem odd_z {k n id : Int} {ok : Bool} (h : 1 ≤ k ∧ k ≤ 5) (hn : k ≠ 2 → n = 0) (hi : k ≠ 4 → k ≠ 5 → id = 0) (ho : k ≠ 4 → ok = false) (j : Jb) (hj : k ≠ 1 → bare j = true) : (Evt.mk k j n id ok).odd = false := by
 unfold Evt.odd
 simp only
 have e1 : decide (k < 1) = false := by simp; omega
 have e2 : decide (5 < k) = false := by simp; omega
 rw [e1, e2]
 have e3 : (decide (k ≠ 1) && !bare j) = false := by
  by_cases hk : k = 1
  ·simp [hk]
  ·simp [hj hk]
 have e4 : (decide (k ≠ 2) && decide (n ≠ 0)) = false := by
  by_cases hk : k = 2
  ·simp [hk]
  ·simp [hn hk]
 have e5 : (!(decide (k = 4) || decide (k = 5)) && decide (id ≠ 0)) = false := by
  by_cases hk : k = 4
  ·simp [hk]
  ·by_cases hk2 : k = 5
   ·simp [hk2]
   ·simp [hi hk hk2]
 have e6 : (decide (k ≠ 4) && ok) = false := by
  by_cases hk : k = 4
  ·simp [hk]
  ·simp [ho hk]
 rw [e3, e4, e5, e6]
 rfl
def keep (o : Option Evt) (b : Bs) : Option Evt := match o with
 | some x => if x.fault = 0 ∧ x.bytes = b then some x else none
 | none => none
theorem take4 {r : Bs} (h : r.length ≤ 4) : r.take 4 = r := List.take_of_length_le h
theorem three {r : Bs} (h : r.length = 3) : ∃ x y z, r = [x, y, z] := by
 match r, h with
 | [x, y, z], _ => exact ⟨x, y, z, rfl⟩
theorem keep_first (k : UInt8) (r : Bs) : keep (first k.toNat r) (k :: r) = rd (k :: r) := by
 unfold rd first
 simp only
 by_cases h1 : k.toNat = 1
 ·rw [if_pos h1, if_pos h1]
  have hk : k = 1 := UInt8.toNat_inj.1 h1
  subst hk
  cases h : rdA r with
  | none => rfl
  | some j =>
   obtain ⟨hf, ht⟩ := own_rd h
   unfold keep
   simp only
   rw [if_pos]
   refine ⟨?_, ?_⟩
   ·unfold Evt.fault
    rw [odd_z (by decide) (fun _ => rfl) (fun _ _ => rfl) (fun _ => rfl) j (fun h => absurd rfl h)]
    exact hf
   ·unfold Evt.bytes Evt.rest
    simp only [if_true]
    rw [ht]
    rfl
 rw [if_neg h1, if_neg h1]
 by_cases h2 : k.toNat = 2
 ·rw [if_pos h2, if_pos h2]
  have hk : k = 2 := UInt8.toNat_inj.1 h2
  subst hk
  have hb : (Evt.mk 2 zJb (numI (r.take 4)) 0 false).bytes = 2 :: be (num (r.take 4)) 4 := rfl
  have hf : (Evt.mk 2 zJb (numI (r.take 4)) 0 false).fault = if 1000000000 < numI (r.take 4) then 4 else 0 := by
   unfold Evt.fault
   rw [odd_z (by decide) (fun h => absurd rfl h) (fun _ _ => rfl) (fun _ => rfl) zJb (fun _ => rfl)]
   have h0 : ¬ numI (r.take 4) < 0 := by unfold numI; omega
   have hc : (numI (r.take 4) < 0 ∨ 1000000000 < numI (r.take 4) ∨ (0 : Int) < 0 ∨ (65535 : Int) < 0) ↔ 1000000000 < numI (r.take 4) := by omega
   simp only [Bool.false_eq_true, if_false, show ¬ (2 : Int) = 1 by decide, hc]
  unfold keep
  simp only
  rw [hf, hb]
  by_cases hr : r.length = 4
  ·rw [take4 (by omega), be_of_num hr]
   by_cases hn : num r ≤ 1000000000
   ·rw [if_pos (by refine ⟨if_neg (by unfold numI; omega), rfl⟩), if_pos ⟨hr, hn⟩]
   ·rw [if_neg (by rintro ⟨h, _⟩; rw [if_pos (by unfold numI; omega)] at h; cases h), if_neg (by rintro ⟨_, h⟩; exact hn h)]
  ·rw [if_neg (by rintro ⟨_, h⟩; injection h with _ h; exact hr (by rw [← h, be_len])), if_neg (by rintro ⟨h, _⟩; exact hr h)]
 rw [if_neg h2, if_neg h2]
 by_cases h3 : k.toNat = 3
 ·have hk : k = 3 := UInt8.toNat_inj.1 h3
  subst hk
  rw [if_pos (show UInt8.toNat 3 = 3 from rfl), if_neg (show ¬ (UInt8.toNat 3 = 4 ∧ r.length = 3) by rintro ⟨h, _⟩; exact absurd h (by decide)), if_neg (show ¬ UInt8.toNat 3 = 5 by decide)]
  have hb : (Evt.mk ((UInt8.toNat 3 : Nat) : Int) zJb 0 0 false).bytes = [3] := rfl
  have hf : (Evt.mk ((UInt8.toNat 3 : Nat) : Int) zJb 0 0 false).fault = 0 := rfl
  unfold keep
  simp only
  rw [hf, hb]
  by_cases hr : r = []
  ·rw [if_pos hr, if_pos ⟨rfl, by rw [hr]⟩]; rfl
  ·rw [if_neg hr, if_neg (by rintro ⟨_, h⟩; injection h with _ h; exact hr h.symm)]
 rw [if_neg h3]
 by_cases h4 : k.toNat = 4
 ·have hk : k = 4 := UInt8.toNat_inj.1 h4
  subst hk
  rw [if_pos (show UInt8.toNat 4 = 4 from rfl)]
  by_cases hr : r.length = 3
  ·rw [if_pos (show UInt8.toNat 4 = 4 ∧ r.length = 3 from ⟨rfl, hr⟩)]
   obtain ⟨x, y, z, rfl⟩ := three hr
   simp only
   rw [take4 (by rw [hr]; decide)]
   have hz : z.toNat < 256 := z.toNat_lt
   have hxy := num_lt [x, y]
   have e : num [x, y, z] = num [x, y] * 256 + z.toNat := num_snoc [x, y] z
   have hd : numI [x, y, z] / 256 = numI [x, y] := by unfold numI; rw [e]; omega
   have hm : numI [x, y, z] % 256 = (z.toNat : Int) := by unfold numI; rw [e]; omega
   rw [hd, hm]
   have hdz : decide ((z.toNat : Int) = 1) = decide (z.toNat = 1) := by
    by_cases h : z.toNat = 1
    ·simp [h]
    ·have : ¬ (z.toNat : Int) = 1 := by omega
     simp [h, this]
   rw [hdz]
   have hb : (Evt.mk 4 zJb 0 (numI [x, y]) (decide (z.toNat = 1))).bytes = 4 :: x :: y :: [bit (decide (z.toNat = 1))] := by
    unfold Evt.bytes Evt.rest
    simp only [show ¬ (4 : Int) = 1 by decide, show ¬ (4 : Int) = 2 by decide, if_true, if_false]
    rw [show (numI [x, y]).toNat = num [x, y] from rfl, be_of_num (s := [x, y]) (k := 2) rfl]
    rfl
   have hf : (Evt.mk 4 zJb 0 (numI [x, y]) (decide (z.toNat = 1))).fault = 0 := by
    unfold Evt.fault
    rw [odd_z (by decide) (fun _ => rfl) (fun h => absurd rfl h) (fun h => absurd rfl h) zJb (fun _ => rfl)]
    have h0 : ¬ ((0 : Int) < 0 ∨ (1000000000 : Int) < 0 ∨ numI [x, y] < 0 ∨ 65535 < numI [x, y]) := by
     have h65 : num [x, y] < 65536 := by simpa using hxy
     unfold numI; omega
    simp only [Bool.false_eq_true, if_false, show ¬ (4 : Int) = 1 by decide, h0]
   unfold keep
   simp only
   rw [hf, hb]
   by_cases hz1 : z.toNat ≤ 1
   ·rw [if_pos hz1, if_pos]
    refine ⟨rfl, ?_⟩
    congr 3
    apply congrArg (· :: [])
    apply UInt8.toNat_inj.1
    unfold bit
    by_cases h : z.toNat = 1
    ·simp [h]
    ·have : z.toNat = 0 := by omega
     simp [this]
   ·rw [if_neg hz1, if_neg]
    rintro ⟨_, h⟩
    simp only [List.cons.injEq, true_and, and_true] at h
    rw [← h] at hz1
    unfold bit at hz1
    split at hz1
    ·exact hz1 (by decide)
    ·exact hz1 (by decide)
  ·rw [if_neg (show ¬ (UInt8.toNat 4 = 4 ∧ r.length = 3) from fun h => hr h.2), if_neg (show ¬ UInt8.toNat 4 = 5 by decide)]
   have hb : (Evt.mk ((UInt8.toNat 4 : Nat) : Int) zJb 0 0 false).bytes = [4, 0, 0, 0] := rfl
   unfold keep
   simp only
   rw [hb, if_neg (by rintro ⟨_, h⟩; injection h with _ h; exact hr (by rw [← h]; rfl))]
   split
   ·exact absurd rfl hr
   ·rfl
 rw [if_neg h4, if_neg (by rintro ⟨h, _⟩; exact h4 h)]
 by_cases h5 : k.toNat = 5
 ·rw [if_pos h5, if_pos h5]
  have hk : k = 5 := UInt8.toNat_inj.1 h5
  subst hk
  have hb : (Evt.mk 5 zJb 0 (numI (r.take 4)) false).bytes = 5 :: be (num (r.take 4)) 2 := rfl
  unfold keep
  simp only
  rw [hb]
  by_cases hr : r.length = 2
  ·have hf : (Evt.mk 5 zJb 0 (numI r) false).fault = 0 := by
    unfold Evt.fault
    rw [odd_z (by decide) (fun _ => rfl) (fun _ h => absurd rfl h) (fun _ => rfl) zJb (fun _ => rfl)]
    have hl : num r < 65536 := by have := num_lt r; rw [hr] at this; simpa using this
    have h0 : ¬ ((0 : Int) < 0 ∨ (1000000000 : Int) < 0 ∨ numI r < 0 ∨ 65535 < numI r) := by
     unfold numI; omega
    simp only [Bool.false_eq_true, if_false, show ¬ (5 : Int) = 1 by decide, h0]
   rw [take4 (by omega), be_of_num hr, hf, if_pos ⟨rfl, rfl⟩, if_pos hr]
  ·rw [if_neg (by rintro ⟨_, h⟩; injection h with _ h; exact hr (by rw [← h, be_len])), if_neg hr]
 rw [if_neg h5, if_neg h5]
 unfold keep
 simp only
 rw [if_neg]
 rintro ⟨h, _⟩
 have ho : (Evt.mk (k.toNat : Int) zJb 0 0 false).odd = true := by
  unfold Evt.odd
  simp only
  have hk : (k.toNat : Int) < 1 ∨ 5 < (k.toNat : Int) := by omega
  rcases hk with hk | hk
  ·simp [hk]
  ·simp [hk]
 unfold Evt.fault at h
 rw [ho] at h
 cases h
theorem rd_bytes {b : Bs} {x : Evt} (h : rd b = some x) : x.fault = 0 ∧ x.bytes = b := by
 cases b with
 | nil => cases h
 | cons k r =>
  rw [← keep_first] at h
  unfold keep at h
  split at h
  ·split at h
   ·rename_i ht
    injection h with h
    subst h
    exact ht
   ·cases h
  ·cases h
end Go.Proofs.YtkemlckmfgacdaaGreatDoor.Ev
namespace Go.Proofs.YtkemlckmfgacdaaGreatDoor
set_option maxRecDepth 20000
set_option maxHeartbeats 64000000
open Go.ChangeShapes Go.WideShapes Go.ChangeAt Go.RowKit
set_option linter.unusedVariables false
open Tp
theorem same_all : ∀ (N : Nat) (x : Ask) (v v' : Value) (w : World), x.size ≤ N → AskV w x v → AskV w x v' → Calls Tryz.prog 48 #[v, v'] w fun e w' => e = .returned (.bool true) ∧ Below w.heap.size w w' := by
 intro N
 induction N with
 | zero => intro x v v' w h; have := Ask.one_le x; omega
 | succ N ih =>
  intro x v v' w hN hx hx'
  have HIH := hid ih
  cases x with
  | mk k ka va nu l =>
  rw [AskV] at hx hx'
  obtain ⟨ad, n, cap, rfl, hn, hcap, hmax, u1, u2, hrow⟩ := hx
  obtain ⟨ad', n', cap', rfl, hn', hcap', hmax', u3, u4, hrow'⟩ := hx'
  obtain rfl : n = n' := by rw [hn, hn']
  rw [Ask.size] at hN
  have HN := hid hn
  have HR := hid hrow
  have HR' := hid hrow'
  obtain ⟨a1, ha1⟩ : ∃ a, bts ka = a := ⟨_, rfl⟩
  obtain ⟨a2, ha2⟩ : ∃ a, bts va = a := ⟨_, rfl⟩
  rw [ha1, ha2]
  have hnm : n ≤ 9223372036854775807 := by omega
  clear ih hn hn' hrow hrow' u1 u2 u3 u4 ha1 ha2 hcap hcap' hmax hmax'
  obtain ⟨W0, hW0⟩ : ∃ W, W = (w.alloc (.cells #[.int .i64 k, .string a1, .string a2, .int .i64 nu, .slice ad n cap] 26)).alloc (.cells #[.int .i64 k, .string a1, .string a2, .int .i64 nu, .slice ad' n cap'] 26) := ⟨_, rfl⟩
  have hb9 : Below w.heap.size w W0 := by rw [hW0]; exact ((Below.refl _ _).alloc lr _).alloc (by simp) _
  have HB9 := hid hb9
  have hsz : W0.heap.size = w.heap.size + 2 := by rw [hW0]; simp
  have d4 : W0.cell? ⟨w.heap.size, 4, none⟩ = some (.slice ad n cap) := by rw [hW0]; simp
  have e4 : W0.cell? ⟨w.heap.size + 1, 4, none⟩ = some (.slice ad' n cap') := by rw [hW0]; simp
  obtain ⟨cx, hcx⟩ : ∃ c, c = w.heap.size := ⟨_, rfl⟩
  rw [← hcx] at d4 e4 hsz
  have hcx0 : cx < W0.heap.size := by omega
  have hcx1 : cx + 1 < W0.heap.size := by omega
  clear hb9 hsz
  have hnn : ((n : Int) != (n : Int)) = false := by simp
  have hs1 : (a1.toList != a1.toList) = false := by simp
  have hs2 : (a2.toList != a2.toList) = false := by simp
  go_enter Tryz.func48, Tryz.ntmps48
  go_upto_region 3 with fail
  rw [← hW0, ← hcx]
  clear hW0 hcx
  go_wp2_with fail
  go_loopg [44] n (fun g x wr => ∃ j : Nat, j + g = n ∧ x = .int .i64 (j : Int) ∧ Hid (Below W0.heap.size W0 wr))
  case atStart => exact ⟨0, by omega, rfl, hid (Below.refl _ _)⟩
  case round =>
   obtain ⟨j, hj, rfl, HB⟩ := hrel
   have HBW : Hid (Below w.heap.size w wr) := hid (HB9.out.trans (HB.out.mono HB9.out.size))
   by_cases hjn : j < n
   ·obtain ⟨y, hy⟩ : ∃ y, l[j]? = some y := ⟨_, List.getElem?_eq_getElem (by rw [← HN.out]; exact hjn)⟩
    obtain ⟨bl, off, rfl, hb, hat⟩ := HR.out (by omega)
    obtain ⟨bm, ofm, rfl, hbm0, hat'⟩ := HR'.out (by omega)
    have hsy := Ask.sizes_at hy
    obtain ⟨k0, k1, k2, k3, ad0, len0, cap0, c0, c1, c2, c3, c4, hyv⟩ := (AsksV.below HBW.out l bl off hb hat).get' hy
    obtain ⟨m0, m1, m2, m3, ad1, len1, cap1, z0, z1, z2, z3, z4, hzv⟩ := (AsksV.below HBW.out l bm ofm hbm0 hat').get' hy
    have hbr : bl < wr.heap.size := Nat.lt_of_lt_of_le hb HBW.out.size
    have hbm : bm < wr.heap.size := Nat.lt_of_lt_of_le hbm0 HBW.out.size
    have hj1 : (0 : Int) ≤ (j : Int) := by omega
    have hj2 : (j : Int) < (n : Int) := by omega
    have f4 := (HB.out.cell (p := ⟨cx, 4, none⟩) hcx0).trans d4
    have g4 := (HB.out.cell (p := ⟨cx + 1, 4, none⟩) hcx1).trans e4
    have hcr0 : cx < wr.heap.size := Nat.lt_of_lt_of_le hcx0 HB.out.size
    have hcr1 : cx + 1 < wr.heap.size := Nat.lt_of_lt_of_le hcx1 HB.out.size
    have HC : Hid (∀ W, Below wr.heap.size wr W → Calls Tryz.prog 48 #[.agg #[.int .i64 k0, .string k1, .string k2, .int .i64 k3, .slice ad0 len0 cap0], .agg #[.int .i64 m0, .string m1, .string m2, .int .i64 m3, .slice ad1 len1 cap1]] W fun e w' => e = .returned (.bool true) ∧ Below W.heap.size W w') := hid (fun W hW => HIH.out y _ _ W (by omega) (AskV.below hW _ _ hyv) (AskV.below hW _ _ hzv))
    clear hat hat' hy hyv hzv
    go_upto_region 6 with fail
    go_region_held3 (fun W => W.cell? ⟨cx, 4, none⟩ = some (.slice (some ⟨bl, off, none⟩) n cap) ∧ W.cell? ⟨cx + 1, 4, none⟩ = some (.slice (some ⟨bm, ofm, none⟩) n cap') ∧ W.cell? ⟨bl, off + j * 5, none⟩ = some (.int .i64 k0) ∧ W.cell? ⟨bl, off + j * 5 + 1, none⟩ = some (.string k1) ∧ W.cell? ⟨bl, off + j * 5 + 2, none⟩ = some (.string k2) ∧ W.cell? ⟨bl, off + j * 5 + 3, none⟩ = some (.int .i64 k3) ∧ W.cell? ⟨bl, off + j * 5 + 4, none⟩ = some (.slice ad0 len0 cap0) ∧ W.cell? ⟨bm, ofm + j * 5, none⟩ = some (.int .i64 m0) ∧ W.cell? ⟨bm, ofm + j * 5 + 1, none⟩ = some (.string m1) ∧ W.cell? ⟨bm, ofm + j * 5 + 2, none⟩ = some (.string m2) ∧ W.cell? ⟨bm, ofm + j * 5 + 3, none⟩ = some (.int .i64 m3) ∧ W.cell? ⟨bm, ofm + j * 5 + 4, none⟩ = some (.slice ad1 len1 cap1)) (first | exact ⟨f4, g4, c0, c1, c2, c3, c4, z0, z1, z2, z3, z4⟩ | exact ⟨(hb1.cell (p := ⟨cx, _, none⟩) hcr0).trans f4, (hb1.cell (p := ⟨cx + 1, _, none⟩) hcr1).trans g4, (hb1.cell (p := ⟨bl, _, none⟩) hbr).trans c0, (hb1.cell (p := ⟨bl, _, none⟩) hbr).trans c1, (hb1.cell (p := ⟨bl, _, none⟩) hbr).trans c2, (hb1.cell (p := ⟨bl, _, none⟩) hbr).trans c3, (hb1.cell (p := ⟨bl, _, none⟩) hbr).trans c4, (hb1.cell (p := ⟨bm, _, none⟩) hbm).trans z0, (hb1.cell (p := ⟨bm, _, none⟩) hbm).trans z1, (hb1.cell (p := ⟨bm, _, none⟩) hbm).trans z2, (hb1.cell (p := ⟨bm, _, none⟩) hbm).trans z3, (hb1.cell (p := ⟨bm, _, none⟩) hbm).trans z4⟩) (first | (go_at_call 48; refine Calls.mono (HC.out _ (by first | exact Below.refl _ _ | go_grown)) ?_; rintro e w1 ⟨rfl, hb1⟩))
    all_goals
     have HBX : Hid (Below W0.heap.size W0 w1) := hid (HB.out.trans (Below.mono (B := wr.heap.size) (by first | exact (show Below wr.heap.size wr wr.drew from by go_grown).trans hb1 | exact hb1) HB.out.size))
     clear hb1
     go_wp2_with fail
     go_roundg (n - (j + 1))
     case measure => omega
     case rel => exact ⟨j + 1, by omega, by simp, HBX⟩
   ·obtain rfl : j = n := by omega
    go_wp2_with fail
    go_ret
    exact ⟨rfl, HBW.out⟩
theorem same_any (x : Ask) (v v' : Value) (w : World) (hx : AskV w x v) (hx' : AskV w x v') : Calls Tryz.prog 48 #[v, v'] w fun e w' => e = .returned (.bool true) ∧ Below w.heap.size w w' := same_all x.size x v v' w lr hx hx'
end Go.Proofs.YtkemlckmfgacdaaGreatDoor
namespace Go.Proofs.YtkemlckmfgacdaaGreatDoor
set_option maxRecDepth 20000
set_option maxHeartbeats 64000000
open Go.ChangeShapes Go.WideShapes Go.ChangeAt Go.RowKit
set_option linter.unusedVariables false
open Tp
mutual
def AskVP (p : Nat → Prop) (w : World) : Ask → Value → Prop
 | .mk k a b n l, v => ∃ ad len cap, v = .agg #[.int .i64 k, .string (bts a), .string (bts b), .int .i64 n, .slice ad len cap] ∧ len = l.length ∧ len ≤ cap ∧ cap ≤ 9223372036854775807 ∧ a.length ≤ 9223372036854775807 ∧ b.length ≤ 9223372036854775807 ∧ (0 < len → ∃ bl off, ad = some ⟨bl, off, none⟩ ∧ bl < w.heap.size ∧ p bl ∧ AsksVP p w l bl off)
def AsksVP (p : Nat → Prop) (w : World) : List Ask → Nat → Nat → Prop
 | [], _, _ => True
 | x :: l, b, off => (∃ v, Cells5 w b off v ∧ AskVP p w x v) ∧ AsksVP p w l b (off + 5)
end
mutual
theorem AskVP.toV {p : Nat → Prop} {w : World} : ∀ (x : Ask) (v : Value), AskVP p w x v → AskV w x v
 | .mk k a b n l, v, h => by
  rw [AskVP] at h
  rw [AskV]
  obtain ⟨ad, len, cap, e, h1, h2, h3, h5, h6, h4⟩ := h
  refine ⟨ad, len, cap, e, h1, h2, h3, h5, h6, fun hp => ?_⟩
  obtain ⟨bl, off, e2, hlt, _, hh⟩ := h4 hp
  exact ⟨bl, off, e2, hlt, AsksVP.toV l bl off hh⟩
theorem AsksVP.toV {p : Nat → Prop} {w : World} : ∀ (l : List Ask) (b off : Nat), AsksVP p w l b off → AsksV w l b off
 | [], _, _, _ => by rw [AsksV]; trivial
 | x :: l, b, off, h => by
  rw [AsksVP] at h
  rw [AsksV]
  obtain ⟨⟨v, h1, h2⟩, h3⟩ := h
  exact ⟨⟨v, h1, AskVP.toV x v h2⟩, AsksVP.toV l b (off + 5) h3⟩
end
mutual
theorem AskV.toP {w : World} : ∀ (x : Ask) (v : Value), AskV w x v → AskVP (fun b => b < w.heap.size) w x v
 | .mk k a b n l, v, h => by
  rw [AskV] at h
  rw [AskVP]
  obtain ⟨ad, len, cap, e, h1, h2, h3, h5, h6, h4⟩ := h
  refine ⟨ad, len, cap, e, h1, h2, h3, h5, h6, fun hp => ?_⟩
  obtain ⟨bl, off, e2, hlt, hh⟩ := h4 hp
  exact ⟨bl, off, e2, hlt, hlt, AsksV.toP l bl off hh⟩
theorem AsksV.toP {w : World} : ∀ (l : List Ask) (b off : Nat), AsksV w l b off → AsksVP (fun b => b < w.heap.size) w l b off
 | [], _, _, _ => by rw [AsksVP]; trivial
 | x :: l, b, off, h => by
  rw [AsksV] at h
  rw [AsksVP]
  obtain ⟨⟨v, h1, h2⟩, h3⟩ := h
  exact ⟨⟨v, h1, AskV.toP x v h2⟩, AsksV.toP l b (off + 5) h3⟩
end
theorem Cells5.same {w w' : World} {b off : Nat} {v : Value} (h : Cells5 w b off v) (e : w'.heap[b]? = w.heap[b]?) : Cells5 w' b off v := by
 obtain ⟨c0, c1, c2, c3, c4, ev, h0, h1, h2, h3, h4⟩ := h
 exact ⟨c0, c1, c2, c3, c4, ev, (cell_of_block (p := ⟨b, _, none⟩) e).trans h0, (cell_of_block (p := ⟨b, _, none⟩) e).trans h1, (cell_of_block (p := ⟨b, _, none⟩) e).trans h2, (cell_of_block (p := ⟨b, _, none⟩) e).trans h3, (cell_of_block (p := ⟨b, _, none⟩) e).trans h4⟩
mutual
theorem AskVP.stays {p q : Nat → Prop} {w w' : World} (hpq : ∀ b, p b → q b) (hs : w.heap.size ≤ w'.heap.size) (he : ∀ b, p b → b < w.heap.size → w'.heap[b]? = w.heap[b]?) : ∀ (x : Ask) (v : Value), AskVP p w x v → AskVP q w' x v
 | .mk k a b n l, v, h => by
  rw [AskVP] at h ⊢
  obtain ⟨ad, len, cap, e, h1, h2, h3, h5, h6, h4⟩ := h
  refine ⟨ad, len, cap, e, h1, h2, h3, h5, h6, fun hp => ?_⟩
  obtain ⟨bl, off, e2, hlt, hpb, hh⟩ := h4 hp
  exact ⟨bl, off, e2, by omega, hpq _ hpb, AsksVP.stays hpq hs he l bl off hpb hlt hh⟩
theorem AsksVP.stays {p q : Nat → Prop} {w w' : World} (hpq : ∀ b, p b → q b) (hs : w.heap.size ≤ w'.heap.size) (he : ∀ b, p b → b < w.heap.size → w'.heap[b]? = w.heap[b]?) : ∀ (l : List Ask) (b off : Nat), p b → b < w.heap.size → AsksVP p w l b off → AsksVP q w' l b off
 | [], _, _, _, _, _ => by rw [AsksVP]; trivial
 | x :: l, b, off, hpb, hlt, h => by
  rw [AsksVP] at h ⊢
  obtain ⟨⟨v, h1, h2⟩, h3⟩ := h
  exact ⟨⟨v, h1.same (he b hpb hlt), AskVP.stays hpq hs he x v h2⟩, AsksVP.stays hpq hs he l b (off + 5) hpb hlt h3⟩
end
theorem AsksVP.at' {p : Nat → Prop} {w : World} : ∀ {l : List Ask} {b off i : Nat} {x : Ask}, AsksVP p w l b off → l[i]? = some x → ∃ v, Cells5 w b (off + i * 5) v ∧ AskVP p w x v
 | [], _, _, _, _, _, h => by simp at h
 | y :: l, b, off, 0, x, h, hx => by
  rw [AsksVP] at h
  simp at hx; subst hx
  simpa using h.1
 | y :: l, b, off, i + 1, x, h, hx => by
  rw [AsksVP] at h
  have := AsksVP.at' (i := i) h.2 (by simpa using hx)
  rwa [show off + 5 + i * 5 = off + (i + 1) * 5 from by omega] at this
end Go.Proofs.YtkemlckmfgacdaaGreatDoor
namespace Go.Proofs.YtkemlckmfgacdaaGreatDoor
set_option maxRecDepth 20000
set_option maxHeartbeats 64000000
open Go.ChangeShapes Go.WideShapes Go.ChangeAt Go.RowKit
set_option linter.unusedVariables false
open Tp
theorem AskV.form {w : World} {x : Ask} {v : Value} (h : AskV w x v) : ∃ (k0 : Int) (k1 k2 : ByteArray) (k3 : Int) (ad : Option Addr) (len cap : Nat), v = .agg #[.int .i64 k0, .string k1, .string k2, .int .i64 k3, .slice ad len cap] := by
 cases x with
 | mk k a b n l =>
 rw [AskV] at h
 obtain ⟨ad, len, cap, e, _⟩ := h
 exact ⟨_, _, _, _, _, _, _, e⟩
theorem cell_top (W : World) (c : Array Value) (T : TypeId) (b i : Nat) (hb : b = W.heap.size) : (W.alloc (.cells c T)).cell? ⟨b, i, none⟩ = c[i]? := by
 subst hb
 simp
def five (W : World) (c : Nat) (v0 v1 v2 v3 v4 : Value) : World := ((((W.setCell ⟨c, 0, none⟩ v0).setCell ⟨c, 1, none⟩ v1).setCell ⟨c, 2, none⟩ v2).setCell ⟨c, 3, none⟩ v3).setCell ⟨c, 4, none⟩ v4
theorem five_heap (W : World) (c : Nat) (v0 v1 v2 v3 v4 : Value) (b : Nat) (h : b ≠ c) : (five W c v0 v1 v2 v3 v4).heap[b]? = W.heap[b]? := by
 unfold five
 rw [Below.heap_setCell _ _ _ _ h, Below.heap_setCell _ _ _ _ h, Below.heap_setCell _ _ _ _ h, Below.heap_setCell _ _ _ _ h, Below.heap_setCell _ _ _ _ h]
theorem five_size (W : World) (c : Nat) (v0 v1 v2 v3 v4 : Value) : (five W c v0 v1 v2 v3 v4).heap.size = W.heap.size := by unfold five; simp
theorem five_below {B : Nat} {w W : World} (h : Below B w W) (c : Nat) (v0 v1 v2 v3 v4 : Value) (hB : B ≤ c) : Below B w (five W c v0 v1 v2 v3 v4) :=
 ((((h.setCell (p := ⟨c, 0, none⟩) hB _).setCell (p := ⟨c, 1, none⟩) hB _).setCell (p := ⟨c, 2, none⟩) hB _).setCell (p := ⟨c, 3, none⟩) hB _).setCell (p := ⟨c, 4, none⟩) hB _
theorem frozen_top (W : World) (c : Array Value) (T : TypeId) (b i : Nat) (hb : b = W.heap.size) : (W.alloc (.cells c T)).frozen? ⟨b, i, none⟩ = false := by
 subst hb
 have := heap_alloc_new W (.cells c T)
 unfold World.frozen?
 simp only [this]
 rfl
theorem AsksVP.get' {p : Nat → Prop} {w : World} {l : List Ask} {b off i : Nat} {x : Ask} (h : AsksVP p w l b off) (hx : l[i]? = some x) : ∃ (k0 : Int) (k1 k2 : ByteArray) (k3 : Int) (ad : Option Addr) (len cap : Nat), w.cell? ⟨b, off + i * 5, none⟩ = some (.int .i64 k0) ∧ w.cell? ⟨b, off + i * 5 + 1, none⟩ = some (.string k1) ∧ w.cell? ⟨b, off + i * 5 + 2, none⟩ = some (.string k2) ∧ w.cell? ⟨b, off + i * 5 + 3, none⟩ = some (.int .i64 k3) ∧ w.cell? ⟨b, off + i * 5 + 4, none⟩ = some (.slice ad len cap) ∧ AskVP p w x (.agg #[.int .i64 k0, .string k1, .string k2, .int .i64 k3, .slice ad len cap]) := by
 obtain ⟨v, ⟨c0, c1, c2, c3, c4, e, h0, h1, h2, h3, h4⟩, hv⟩ := h.at' hx
 obtain ⟨k0, k1, k2, k3, ad, len, cap, e2⟩ := AskV.form (AskVP.toV _ _ hv)
 rw [e] at e2
 simp only [Value.agg.injEq, Array.mk.injEq, List.cons.injEq, and_true] at e2
 obtain ⟨rfl, rfl, rfl, rfl, rfl⟩ := e2
 exact ⟨k0, k1, k2, k3, ad, len, cap, h0, h1, h2, h3, h4, e ▸ hv⟩
end Go.Proofs.YtkemlckmfgacdaaGreatDoor
