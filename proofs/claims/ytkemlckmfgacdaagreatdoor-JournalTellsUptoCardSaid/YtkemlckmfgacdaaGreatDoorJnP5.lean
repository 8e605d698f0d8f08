/- Plain: what a good ask holds of; a row's asks, their cells named. -/
import Derived.Test.YtkemlckmfgacdaaGreatDoorJnP4
import Derived.Test.YtkemlckmfgacdaaGreatDoorJnP3
import Derived.Lib.IndexAny
import Derived.Test.YtkemlckmfgacdaaGreatDoorJnP0
import Derived.Lib.AtoiAllCases
namespace Go.Proofs.YtkemlckmfgacdaaGreatDoor
set_option maxRecDepth 20000
set_option maxHeartbeats 64000000
open Go.ChangeShapes Go.WideShapes Go.ChangeAt Go.RowKit
set_option linter.unusedVariables false
open Tp
namespace Ask
set_option maxRecDepth 20000
set_option maxHeartbeats 64000000
theorem err_zero {k : Int} {a b : Bs} {n : Int} {l : List Ask} (h : err (mk k a b n l) = 0) : bad k a b n l.length = 0 ∧ errs l = 0 := by
 rw [err] at h
 split at h
 ·rename_i h2; exact absurd h h2
 ·rename_i h2; exact ⟨Decidable.byContradiction h2, h⟩
theorem errs_at {l : List Ask} {i : Nat} {x : Ask} (h : errs l = 0) (hx : l[i]? = some x) : err x = 0 := by
 induction l generalizing i with
 | nil => simp at hx
 | cons y l ih =>
  rw [errs] at h
  split at h
  ·rename_i h2; exact absurd h h2
  ·rename_i h2
   cases i with
   | zero => simp at hx; subst hx; exact Decidable.byContradiction h2
   | succ i => exact ih (i := i) h (by simpa using hx)
theorem bad_zero {k : Int} {a b : Bs} {n : Int} {len : Nat} (h : bad k a b n len = 0) : 1 ≤ k ∧ k ≤ 6 ∧ len = inner k ∧ (k ≠ 3 → n = 0) ∧ 0 ≤ n ∧ n ≤ 1099511627776 ∧ (4 ≤ k → a = []) ∧ (k ≠ 2 → b = []) ∧ (k = 3 → unit a = true) ∧ (k = 1 ∨ k = 2 → lab a = true) ∧ (k = 2 → lab b = true) := by
 unfold bad at h
 split at h
 ·cases h
 rename_i h1
 split at h
 ·cases h
 rename_i h2
 split at h
 ·cases h
 rename_i h3
 split at h
 ·cases h
 rename_i h4
 have g1 : len = inner k := Decidable.byContradiction fun e => h2 (.inl e)
 have g2 : 4 ≤ k → a = [] := fun e => Decidable.byContradiction fun e2 => h2 (.inr (.inl ⟨e, e2⟩))
 have g3 : k ≠ 2 → b = [] := fun e => Decidable.byContradiction fun e2 => h2 (.inr (.inr (.inl ⟨e, e2⟩)))
 have g4 : k ≠ 3 → n = 0 := fun e => Decidable.byContradiction fun e2 => h2 (.inr (.inr (.inr ⟨e, e2⟩)))
 have g5 : k = 3 → unit a = true := fun e => by
  cases hu : unit a with
  | true => rfl
  | false => exact absurd (.inl ⟨e, hu⟩) h3
 have g6 : k = 1 ∨ k = 2 → lab a = true := fun e => by
  cases hu : lab a with
  | true => rfl
  | false => exact absurd (.inr (.inl ⟨e, hu⟩)) h3
 have g7 : k = 2 → lab b = true := fun e => by
  cases hu : lab b with
  | true => rfl
  | false => exact absurd (.inr (.inr ⟨e, hu⟩)) h3
 exact ⟨by omega, by omega, g1, g4, by omega, by omega, g2, g3, g5, g6, g7⟩
end Ask
theorem AsksV.get' {w : World} {l : List Ask} {b off i : Nat} {x : Ask} (h : AsksV w l b off) (hx : l[i]? = some x) : ∃ (k0 : Int) (k1 k2 : ByteArray) (k3 : Int) (ad : Option Addr) (len cap : Nat), w.cell? ⟨b, off + i * 5, none⟩ = some (.int .i64 k0) ∧ w.cell? ⟨b, off + i * 5 + 1, none⟩ = some (.string k1) ∧ w.cell? ⟨b, off + i * 5 + 2, none⟩ = some (.string k2) ∧ w.cell? ⟨b, off + i * 5 + 3, none⟩ = some (.int .i64 k3) ∧ w.cell? ⟨b, off + i * 5 + 4, none⟩ = some (.slice ad len cap) ∧ AskV w x (.agg #[.int .i64 k0, .string k1, .string k2, .int .i64 k3, .slice ad len cap]) := by
 obtain ⟨ad, len, cap, h0, h1, h2, h3, h4, h5⟩ := h.get hx
 exact ⟨_, _, _, _, ad, len, cap, h0, h1, h2, h3, h4, h5⟩
end Go.Proofs.YtkemlckmfgacdaaGreatDoor
namespace Go.Proofs.YtkemlckmfgacdaaGreatDoor.Ar
set_option maxRecDepth 20000
set_option maxHeartbeats 64000000
open Go.Proofs.YtkemlckmfgacdaaGreatDoor.Tp
set_option linter.unusedVariables false
def signs : Bs := [63, 61, 62, 33, 40, 41, 38, 124]
theorem sgn_signs (c : UInt8) : signs.contains c = sgn c := by
 unfold signs sgn
 simp only [List.contains_cons, List.contains_nil, Bool.or_false, Bool.or_assoc]
theorem index_word : ∀ s : Bs, Lib.indexAny s signs = if rest s = [] then -1 else ((word s).length : Int)
 | [] => rfl
 | c :: s => by
  rw [Lib.indexAny, sgn_signs]
  have ih := index_word s
  cases h : sgn c with
  | true =>
   have e1 : rest (c :: s) = c :: s := by unfold rest; simp [List.dropWhile, h]
   have e2 : word (c :: s) = [] := by unfold word; simp [List.takeWhile, h]
   rw [e1, e2]; simp
  | false =>
   have e1 : rest (c :: s) = rest s := by unfold rest; simp [List.dropWhile, h]
   have e2 : word (c :: s) = c :: word s := by unfold word; simp [List.takeWhile, h]
   rw [e1, e2, ih]
   by_cases h0 : rest s = []
   ·simp [h0]
   ·rw [if_neg h0, if_neg h0]
    have : ((word s).length : Int) ≠ -1 := by omega
    simp [this]
theorem word_rest (s : Bs) : word s ++ rest s = s := List.takeWhile_append_dropWhile
theorem word_take (s : Bs) : s.take (word s).length = word s ∧ s.drop (word s).length = rest s := by
 have h := word_rest s
 obtain ⟨a, ha⟩ : ∃ a, word s = a := ⟨_, rfl⟩
 obtain ⟨b, hb⟩ : ∃ a, rest s = a := ⟨_, rfl⟩
 rw [ha, hb] at h ⊢
 subst h
 exact ⟨List.take_left' rfl, List.drop_left' rfl⟩
theorem word_all {s : Bs} (h : rest s = []) : word s = s := by
 have := word_rest s
 rw [h, List.append_nil] at this; exact this
theorem word_len (s : Bs) : (word s).length ≤ s.length := by
 have := congrArg List.length (word_rest s)
 rw [List.length_append] at this; omega
theorem rest_len (s : Bs) : (rest s).length ≤ s.length := by
 have := congrArg List.length (word_rest s)
 rw [List.length_append] at this; omega
def takeB (c : UInt8) : Bs → Option Bs
 | [] => none
 | x :: t => if x = c then some t else none
theorem askP_less : ∀ (N left : Nat) (s : Bs) (x : Ask) (r : Bs) (l : Nat), askP N left s = some (x, r, l) → l < left ∧ r.length ≤ s.length ∧ x.size ≤ left - l
 | 0, left, s, x, r, l, h => by simp [askP] at h
 | N + 1, left, s, x, r, l, h => by
  unfold askP at h
  split at h
  ·cases h
  rename_i h0
  split at h
  ·rename_i t
   cases h
   have := rest_len t
   exact ⟨by omega, by simp; omega, by simp [Ask.size, Ask.sizes]; omega⟩
  ·rename_i t
   split at h
   ·cases h
   ·rename_i y r' l' hy
    cases h
    obtain ⟨h1, h2, h3⟩ := askP_less N _ _ _ _ _ hy
    exact ⟨by omega, by simp; omega, by simp [Ask.size, Ask.sizes]; omega⟩
  ·rename_i t
   split at h
   ·cases h
   ·rename_i a r' l' ha
    obtain ⟨h1, h2, h3⟩ := askP_less N _ _ _ _ _ ha
    split at h
    ·rename_i r2
     split at h
     ·rename_i b r3 l3 hb
      cases h
      obtain ⟨g1, g2, g3⟩ := askP_less N _ _ _ _ _ hb
      simp at h2 g2
      exact ⟨by omega, by simp; omega, by simp [Ask.size, Ask.sizes]; omega⟩
     ·cases h
    ·rename_i r2
     split at h
     ·rename_i b r3 l3 hb
      cases h
      obtain ⟨g1, g2, g3⟩ := askP_less N _ _ _ _ _ hb
      simp at h2 g2
      exact ⟨by omega, by simp; omega, by simp [Ask.size, Ask.sizes]; omega⟩
     ·cases h
    ·cases h
  ·split at h
   ·rename_i t ht
    split at h
    ·cases h
     have h1 := rest_len s
     have h2 := rest_len t
     rw [ht] at h1
     simp at h1
     exact ⟨by omega, by omega, by simp [Ask.size, Ask.sizes]; omega⟩
    ·cases h
   ·rename_i t ht
    cases h
    have h1 := rest_len s
    have h2 := rest_len t
    rw [ht] at h1
    simp at h1
    exact ⟨by omega, by omega, by simp [Ask.size, Ask.sizes]; omega⟩
   ·cases h
end Go.Proofs.YtkemlckmfgacdaaGreatDoor.Ar
namespace Go.Proofs.YtkemlckmfgacdaaGreatDoor
set_option maxRecDepth 20000
set_option maxHeartbeats 64000000
open Go.ChangeShapes Go.WideShapes Go.ChangeAt Go.RowKit
set_option linter.unusedVariables false

def needB (c m g : Int) : Bool := decide ((0 ≤ c ∧ c ≤ 1099511627776) ∧ (0 ≤ m ∧ m ≤ 1099511627776) ∧ (0 ≤ g ∧ g ≤ 1099511627776))
def needE (c m g : Int) : Int := if needB c m g then 0 else 4
theorem needB_yes {c m g : Int} (h : needB c m g = true) : (0 ≤ c ∧ c ≤ 1099511627776) ∧ (0 ≤ m ∧ m ≤ 1099511627776) ∧ (0 ≤ g ∧ g ≤ 1099511627776) := by simpa [needB] using h
theorem needB_no {c m g : Int} (h : needB c m g = false) : (c < 0 ∨ 1099511627776 < c) ∨ (m < 0 ∨ 1099511627776 < m) ∨ (g < 0 ∨ 1099511627776 < g) := by simp [needB] at h; omega

theorem parts_any (b : Nat) (w : World) : Calls Tryz.prog 68 #[.pointer (some ⟨b, 0, none⟩)] w fun e w' =>
  e = .returned (.slice (some ⟨w.heap.size, 0, none⟩) 3 3) ∧ w' = (w.alloc (.cells #[.string ⟨#[99, 112, 117]⟩, .pointer (some ⟨b, 0, none⟩), .string ⟨#[109, 101, 109]⟩, .pointer (some ⟨b, 1, none⟩), .string ⟨#[103, 112, 117]⟩, .pointer (some ⟨b, 2, none⟩)] 107)).drew := by
 go_enter Tryz.func68, Tryz.ntmps68
 go_wp2
 go_region
 go_wp2
 go_ret
 exact ⟨rfl, rfl⟩

theorem needB_split {c m g : Int} (h : needB c m g = false) : (c < 0 ∨ (0 ≤ c ∧ 1099511627776 < c)) ∨ ((0 ≤ c ∧ c ≤ 1099511627776) ∧ (m < 0 ∨ (0 ≤ m ∧ 1099511627776 < m))) ∨ ((0 ≤ c ∧ c ≤ 1099511627776) ∧ (0 ≤ m ∧ m ≤ 1099511627776) ∧ (g < 0 ∨ (0 ≤ g ∧ 1099511627776 < g))) := by
 have := needB_no h
 omega
theorem Check_any (c m g : Int) (w : World) : Calls Tryz.prog 39 #[.agg #[.int .i64 c, .int .i64 m, .int .i64 g]] w fun e w' => e = .returned (.int .i64 (needE c m g)) ∧ Below w.heap.size w w' := by
 cases hb : needB c m g with
 | true =>
  obtain ⟨⟨c1, c2⟩, ⟨m1, m2⟩, g1, g2⟩ := needB_yes hb
  have HE := hid (show 0 = needE c m g from by simp [needE, hb])
  clear hb
  go_enter Tryz.func39, Tryz.ntmps39
  go_wp2_with (go_at_call 68; refine (parts_any _ _).mono ?_; rintro e w' ⟨rfl, rfl⟩)
  go_rounds 4
  go_wp2
  go_ret
  exact ⟨ret_int HE.out, by go_grown⟩
 | false =>
  have HN := needB_split hb
  have HE := hid (show 4 = needE c m g from by simp [needE, hb])
  clear hb
  rcases HN with (h1 | ⟨h1, h2⟩) | ⟨⟨c1, c2⟩, h1 | ⟨h1, h2⟩⟩ | ⟨⟨c1, c2⟩, ⟨m1, m2⟩, h1 | ⟨h1, h2⟩⟩
  all_goals
   go_enter Tryz.func39, Tryz.ntmps39
   go_wp2_with (go_at_call 68; refine (parts_any _ _).mono ?_; rintro e w' ⟨rfl, rfl⟩)
  ·go_rounds 1
   go_ret
   exact ⟨ret_int HE.out, by go_grown⟩
  ·go_rounds 1
   go_ret
   exact ⟨ret_int HE.out, by go_grown⟩
  ·go_rounds 2
   go_ret
   exact ⟨ret_int HE.out, by go_grown⟩
  ·go_rounds 2
   go_ret
   exact ⟨ret_int HE.out, by go_grown⟩
  ·go_rounds 3
   go_ret
   exact ⟨ret_int HE.out, by go_grown⟩
  ·go_rounds 3
   go_ret
   exact ⟨ret_int HE.out, by go_grown⟩

theorem amounts_any (c m g : Int) (w : World) : Calls Tryz.prog 70 #[.agg #[.int .i64 c, .int .i64 m, .int .i64 g]] w fun e w' => e = .returned (.agg #[.int .i64 c, .int .i64 m, .int .i64 g]) ∧ Below w.heap.size w w' := by
 go_enter Tryz.func70, Tryz.ntmps70
 go_wp2
 refine bodyPost_ret (v := .agg #[.int .i64 c, .int .i64 m, .int .i64 g]) (by simp [results, Tryz.results70, go_sem]) rfl ⟨rfl, ?_⟩
 go_grown

theorem idx3 (c m g : Int) : (∀ w : World, (Instr.index 112 (.agg #[.int .i64 c, .int .i64 m, .int .i64 g]) (.int .i64 0)).run Tryz.prog w = .ok (.int .i64 c) w) ∧ (∀ w : World, (Instr.index 112 (.agg #[.int .i64 c, .int .i64 m, .int .i64 g]) (.int .i64 1)).run Tryz.prog w = .ok (.int .i64 m) w) ∧ (∀ w : World, (Instr.index 112 (.agg #[.int .i64 c, .int .i64 m, .int .i64 g]) (.int .i64 2)).run Tryz.prog w = .ok (.int .i64 g) w) :=
 ⟨fun _ => by kernel_rfl, fun _ => by kernel_rfl, fun _ => by kernel_rfl⟩
theorem needFault_any (c m g : Int) (w : World) : Calls Tryz.prog 36 #[.agg #[.int .i64 c, .int .i64 m, .int .i64 g]] w fun e w' => e = .returned (.int .i64 (needE c m g)) ∧ Below w.heap.size w w' := by
 obtain ⟨i0, i1, i2⟩ := idx3 c m g
 cases hb : needB c m g with
 | true =>
  obtain ⟨⟨c1, c2⟩, ⟨m1, m2⟩, g1, g2⟩ := needB_yes hb
  have HE := hid (show 0 = needE c m g from by simp [needE, hb])
  clear hb
  go_enter Tryz.func36, Tryz.ntmps36
  go_wp2_with (go_at_call 70; refine (amounts_any _ _ _ _).mono ?_; rintro e w1 ⟨rfl, hB⟩; have hB1 : Below w.heap.size w w1 := (show Below w.heap.size w (w.alloc _) by go_grown).trans (hB.mono (by simp)); clear hB)
  go_rounds 4
  go_wp2
  go_ret
  exact ⟨ret_int HE.out, by go_grown⟩
 | false =>
  have HN := needB_split hb
  have HE := hid (show 4 = needE c m g from by simp [needE, hb])
  clear hb
  rcases HN with (h1 | ⟨h1, h2⟩) | ⟨⟨c1, c2⟩, h1 | ⟨h1, h2⟩⟩ | ⟨⟨c1, c2⟩, ⟨m1, m2⟩, h1 | ⟨h1, h2⟩⟩
  all_goals
   go_enter Tryz.func36, Tryz.ntmps36
   go_wp2_with (go_at_call 70; refine (amounts_any _ _ _ _).mono ?_; rintro e w1 ⟨rfl, hB⟩; have hB1 : Below w.heap.size w w1 := (show Below w.heap.size w (w.alloc _) by go_grown).trans (hB.mono (by simp)); clear hB)
  ·go_rounds 1
   go_ret
   exact ⟨ret_int HE.out, by go_grown⟩
  ·go_rounds 1
   go_ret
   exact ⟨ret_int HE.out, by go_grown⟩
  ·go_rounds 2
   go_ret
   exact ⟨ret_int HE.out, by go_grown⟩
  ·go_rounds 2
   go_ret
   exact ⟨ret_int HE.out, by go_grown⟩
  ·go_rounds 3
   go_ret
   exact ⟨ret_int HE.out, by go_grown⟩
  ·go_rounds 3
   go_ret
   exact ⟨ret_int HE.out, by go_grown⟩
end Go.Proofs.YtkemlckmfgacdaaGreatDoor
namespace Go.Proofs.YtkemlckmfgacdaaGreatDoor.Jm
set_option maxRecDepth 20000
set_option maxHeartbeats 64000000
open Go.Proofs.YtkemlckmfgacdaaGreatDoor.Tp
open Go.Proofs.YtkemlckmfgacdaaGreatDoor.Nt (dec dec_val dec_ne dec_len isD decI pcs pcs_none pcs_hit pcs_join joinC V3 needText intOf intOf_dec val parseM digs)
set_option linter.unusedVariables false
structure Jb where
 user : Bs
 prio : Int
 a : Int
 b : Int
 c : Int
 ask : Ask
 after : List Int
def aftE : Int → List Int → Int
 | _, [] => 0
 | last, n :: l => if n < 1 ∨ 60 < n then 4 else if n ≤ last then 6 else aftE n l
def Jb.fault (j : Jb) : Int := if lab j.user = false then 3 else if j.prio < -1000 ∨ 1000 < j.prio then 4 else if needE j.a j.b j.c ≠ 0 then needE j.a j.b j.c else if j.ask.fault ≠ 0 then j.ask.fault else if 8 < j.after.length then 2 else aftE 0 j.after
def aftT (l : List Int) : Bs := if l = [] then [45] else joinC (l.map decI)
def Jb.text (j : Jb) : Bs := j.user ++ 32 :: (decI j.prio ++ 32 :: (needText (j.a.toNat, j.b.toNat, j.c.toNat) ++ 32 :: (aftT j.after ++ 32 :: Ar.txt j.ask)))
def nd (s : Bs) : Option V3 := match Nt.own (Nt.readR s) s with
 | some v => if needB v.1 v.2.1 v.2.2 then some v else none
 | none => none
def nums (num : Bs → Option Int) : List Bs → Option (List Int)
 | [] => some []
 | x :: l => match num x with
  | none => none
  | some n => match nums num l with
   | none => none
   | some r => some (n :: r)
def aftR (num : Bs → Option Int) (s : Bs) : Option (List Int) := if s = [45] then some [] else nums num (pcs 44 s)
def parse5 (num : Bs → Option Int) (askr : Bs → Option Ask) (u p n f x : Bs) : Option Jb := match num p, nd n, askr x with
 | some q, some v, some a => match aftR num f with
  | some l => some ⟨u, q, v.1, v.2.1, v.2.2, a, l⟩
  | none => none
 | _, _, _ => none
def parse (num : Bs → Option Int) (askr : Bs → Option Ask) (s : Bs) : Option Jb := match pcs 32 s with
 | [u, p, n, f, x] => parse5 num askr u p n f x
 | _ => none
def own (o : Option Jb) (s : Bs) : Option Jb := match o with
 | some j => if j.fault = 0 ∧ j.text = s then some j else none
 | none => none
theorem fault_parts {j : Jb} (h : j.fault = 0) : lab j.user = true ∧ (-1000 ≤ j.prio ∧ j.prio ≤ 1000) ∧ needB j.a j.b j.c = true ∧ j.ask.fault = 0 ∧ j.after.length ≤ 8 ∧ aftE 0 j.after = 0 := by
 unfold Jb.fault at h
 split at h
 ·cases h
 rename_i h1
 split at h
 ·cases h
 rename_i h2
 split at h
 ·rename_i h3; exact absurd h h3
 rename_i h3
 split at h
 ·rename_i h4; exact absurd h h4
 rename_i h4
 split at h
 ·cases h
 rename_i h5
 refine ⟨by simpa using h1, by omega, ?_, by simpa using h4, by omega, h⟩
 cases hn : needB j.a j.b j.c with
 | true => rfl
 | false => exact absurd (by unfold needE; rw [hn]; rfl : needE j.a j.b j.c = 4) (by simpa using fun e => h3 (by rw [e]; decide))
theorem aftE_at : ∀ (l : List Int) (last : Int), aftE last l = 0 → ∀ n, n ∈ l → 1 ≤ n ∧ n ≤ 60
 | [], _, _, n, h => by cases h
 | m :: l, last, h, n, hn => by
  rw [aftE] at h
  split at h
  ·cases h
  rename_i h1
  split at h
  ·cases h
  rcases List.mem_cons.1 hn with rfl | hn
  ·omega
  ·exact aftE_at l m h n hn
theorem isD_ne {c d : UInt8} (h : isD c) (hd : d.toNat < 48 ∨ 57 < d.toNat) : c ≠ d := fun e => by subst e; unfold isD at h; omega
theorem decI_ch {n : Int} : ∀ c, c ∈ decI n → isD c ∨ c = 45 := fun c hc => by
 unfold decI at hc
 split at hc
 ·rcases List.mem_cons.1 hc with rfl | hc
  ·exact .inr rfl
  ·exact .inl ((dec_val (n.natAbs + 1) n.natAbs (by omega)).2 c hc)
 ·exact .inl ((dec_val (n.toNat + 1) n.toNat (by omega)).2 c hc)
theorem decI_pos {n : Int} (h : 0 ≤ n) : ∀ c, c ∈ decI n → isD c := fun c hc => by
 unfold decI at hc
 rw [if_neg (by omega)] at hc
 exact (dec_val (n.toNat + 1) n.toNat (by omega)).2 c hc
theorem decI_ne (n : Int) : decI n ≠ [] := by
 unfold decI
 split
 ·simp
 ·exact dec_ne _
theorem decI_no {n : Int} {d : UInt8} (hd : d = 32 ∨ d = 44) : ∀ c, c ∈ decI n → c ≠ d := fun c hc => by
 rcases decI_ch c hc with h | h
 ·exact isD_ne h (by rcases hd with rfl | rfl <;> decide)
 ·subst h; rcases hd with rfl | rfl <;> decide
theorem joinC_ch {P : UInt8 → Prop} (h44 : P 44) : ∀ l : List Bs, (∀ t, t ∈ l → ∀ c, c ∈ t → P c) → ∀ c, c ∈ joinC l → P c
 | [], _, c, hc => by cases hc
 | [x], h, c, hc => h x (by simp) c hc
 | x :: y :: l, h, c, hc => by
  rw [joinC, List.mem_append, List.mem_cons] at hc
  rcases hc with hc | rfl | hc
  ·exact h x (by simp) c hc
  ·exact h44
  ·exact joinC_ch h44 (y :: l) (fun t ht => h t (by simp at ht ⊢; exact .inr ht)) c hc
theorem labC_no32 {c : UInt8} (h : labC c = true) : c ≠ 32 := fun e => by subst e; exact absurd h (by decide)
theorem lab_no32 {s : Bs} (h : lab s = true) : ∀ c, c ∈ s → c ≠ 32 := by
 cases s with
 | nil => intro c hc; cases hc
 | cons x s =>
  unfold lab at h
  simp only [Bool.and_eq_true] at h
  intro c hc
  rcases List.mem_cons.1 hc with rfl | hc
  ·exact labC_no32 (by unfold labC; rw [h.1.1]; rfl)
  ·exact labC_no32 (List.all_eq_true.1 h.1.2 c hc)
theorem unit_no32 {s : Bs} (h : Ask.unit s = true) : ∀ c, c ∈ s → c ≠ 32 := by
 unfold Ask.unit at h
 simp only [Bool.or_eq_true, decide_eq_true_eq] at h
 rcases h with (h | h) | h <;> subst h <;> decide
theorem dec_no32 (u : Nat) : ∀ c, c ∈ dec u → c ≠ 32 := fun c hc => isD_ne ((dec_val (u + 1) u (by omega)).2 c hc) (by decide)
theorem txt_no32 {x : Ask} (hx : Ar.Good x) : ∀ c, c ∈ Ar.txt x → c ≠ 32 := by
 induction hx with
 | @has a h =>
  intro c hc
  rw [show Ar.txt (.mk 1 a [] 0 []) = 63 :: a by simp [Ar.txt]] at hc
  rcases List.mem_cons.1 hc with rfl | hc
  ·decide
  ·exact lab_no32 h c hc
 | @is a b h h2 =>
  intro c hc
  rw [show Ar.txt (.mk 2 a b 0 []) = a ++ 61 :: b by simp [Ar.txt], List.mem_append, List.mem_cons] at hc
  rcases hc with hc | rfl | hc
  ·exact lab_no32 h c hc
  ·decide
  ·exact lab_no32 h2 c hc
 | @more a n h h0 h1 =>
  intro c hc
  rw [show Ar.txt (.mk 3 a [] n []) = a ++ 62 :: 61 :: dec n.toNat by simp [Ar.txt], List.mem_append, List.mem_cons, List.mem_cons] at hc
  rcases hc with hc | rfl | rfl | hc
  ·exact unit_no32 h c hc
  ·decide
  ·decide
  ·exact dec_no32 _ c hc
 | @not y h ih =>
  intro c hc
  rw [Ar.txt4] at hc
  rcases List.mem_cons.1 hc with rfl | hc
  ·decide
  ·exact ih c hc
 | @and x y h h2 ihx ihy =>
  intro c hc
  rw [Ar.txt5] at hc
  simp only [List.mem_cons, List.mem_append, List.not_mem_nil, or_false] at hc
  rcases hc with rfl | hc | rfl | hc | rfl
  ·decide
  ·exact ihx c hc
  ·decide
  ·exact ihy c hc
  ·decide
 | @or x y h h2 ihx ihy =>
  intro c hc
  rw [Ar.txt6] at hc
  simp only [List.mem_cons, List.mem_append, List.not_mem_nil, or_false] at hc
  rcases hc with rfl | hc | rfl | hc | rfl
  ·decide
  ·exact ihx c hc
  ·decide
  ·exact ihy c hc
  ·decide
theorem ent_no32 {n : Bs} {u : Nat} (h : ∀ c, c ∈ n → c ≠ 32) : ∀ t, t ∈ Nt.ent n u → ∀ c, c ∈ t → c ≠ 32 := fun t ht c hc => by
 unfold Nt.ent at ht
 split at ht
 ·cases ht
 ·simp only [List.mem_singleton] at ht
  subst ht
  rw [List.mem_append, List.mem_cons] at hc
  rcases hc with hc | rfl | hc
  ·exact h c hc
  ·decide
  ·exact dec_no32 u c hc
theorem need_no32 (v : V3) : ∀ c, c ∈ needText v → c ≠ 32 := by
 unfold needText
 split
 ·intro c hc; simp at hc; subst hc; decide
 ·refine joinC_ch (by decide) _ (fun t ht => ?_)
  unfold Nt.ents at ht
  rw [List.mem_append, List.mem_append] at ht
  rcases ht with (ht | ht) | ht
  ·exact ent_no32 (by decide) t ht
  ·exact ent_no32 (by decide) t ht
  ·exact ent_no32 (by decide) t ht
theorem aft_no32 (l : List Int) : ∀ c, c ∈ aftT l → c ≠ 32 := by
 unfold aftT
 split
 ·intro c hc; simp at hc; subst hc; decide
 ·refine joinC_ch (by decide) _ (fun t ht => ?_)
  obtain ⟨n, _, rfl⟩ := List.mem_map.1 ht
  exact decI_no (.inl rfl)
theorem text_pcs {j : Jb} (h : j.fault = 0) : pcs 32 j.text = [j.user, decI j.prio, needText (j.a.toNat, j.b.toNat, j.c.toNat), aftT j.after, Ar.txt j.ask] := by
 obtain ⟨h1, _, _, h4, _, _⟩ := fault_parts h
 unfold Jb.text
 rw [pcs_hit (lab_no32 h1), pcs_hit (decI_no (.inl rfl)), pcs_hit (need_no32 _), pcs_hit (aft_no32 _), pcs_none (txt_no32 (Ar.fault_good h4).1)]
theorem nd_text {a b c : Int} (h : needB a b c = true) : nd (needText (a.toNat, b.toNat, c.toNat)) = some (a.toNat, b.toNat, c.toNat) := by
 obtain ⟨h1, h2, h3⟩ := needB_yes h
 have hc : Nt.Can (a.toNat, b.toNat, c.toNat) := ⟨by show a.toNat < _; omega, by show b.toNat < _; omega, by show c.toNat < _; omega⟩
 unfold nd
 rw [Nt.readR_text hc]
 unfold Nt.own
 simp only [if_true]
 rw [show ((a.toNat : Nat) : Int) = a by omega, show ((b.toNat : Nat) : Int) = b by omega, show ((c.toNat : Nat) : Int) = c by omega, h]
 rfl
theorem nums_map {num : Bs → Option Int} : ∀ l : List Int, (∀ n, n ∈ l → num (decI n) = some n) → nums num (l.map decI) = some l
 | [], _ => rfl
 | n :: l, h => by
  rw [List.map_cons, nums, h n (by simp)]
  simp only
  rw [nums_map l (fun m hm => h m (by simp [hm]))]
theorem aftR_text {num : Bs → Option Int} {l : List Int} (h0 : ∀ n, n ∈ l → 1 ≤ n) (h : ∀ n, n ∈ l → num (decI n) = some n) : aftR num (aftT l) = some l := by
 unfold aftR aftT
 by_cases hl : l = []
 ·subst hl; rfl
 rw [if_neg hl]
 have hne : l.map decI ≠ [] := by simpa using hl
 have h45 : joinC (l.map decI) ≠ [45] := fun e => by
  have := joinC_ch (P := fun c => c ≠ 45) (by decide) (l.map decI) (fun t ht c hc => by
   obtain ⟨n, hn, rfl⟩ := List.mem_map.1 ht
   exact isD_ne (decI_pos (by have := h0 n hn; omega) c hc) (by decide)) 45 (by rw [e]; simp)
  exact this rfl
 rw [if_neg h45, pcs_join hne (fun t ht => by
  obtain ⟨n, _, rfl⟩ := List.mem_map.1 ht
  exact decI_no (.inr rfl)), nums_map l h]
theorem parse_text {num : Bs → Option Int} {askr : Bs → Option Ask} (hn : ∀ n, -1000 ≤ n → n ≤ 1000 → num (decI n) = some n) {j : Jb} (h : j.fault = 0) (ha : askr (Ar.txt j.ask) = some j.ask) : parse num askr j.text = some j := by
 obtain ⟨h1, h2, h3, h4, h5, h6⟩ := fault_parts h
 obtain ⟨g1, g2, g3⟩ := needB_yes h3
 have hb := aftE_at j.after 0 h6
 unfold parse
 rw [text_pcs h]
 simp only
 unfold parse5
 rw [hn _ h2.1 h2.2, nd_text h3, ha]
 simp only
 rw [aftR_text (fun n hm => (hb n hm).1) (fun n hm => hn n (by have := hb n hm; omega) (by have := hb n hm; omega))]
 simp only
 rw [show ((j.a.toNat : Nat) : Int) = j.a by omega, show ((j.b.toNat : Nat) : Int) = j.b by omega, show ((j.c.toNat : Nat) : Int) = j.c by omega]
theorem txt_le (j : Jb) : (Ar.txt j.ask).length ≤ j.text.length := by
 unfold Jb.text
 simp only [List.length_append, List.length_cons]
 omega
theorem own_key {num num' : Bs → Option Int} {askr askr' : Bs → Option Ask} (hn : ∀ n, -1000 ≤ n → n ≤ 1000 → num' (decI n) = some n) {s : Bs} (ha : ∀ x, x.fault = 0 → (Ar.txt x).length ≤ s.length → askr' (Ar.txt x) = some x) {j : Jb} (h : own (parse num askr s) s = some j) : own (parse num' askr' s) s = some j := by
 unfold own at h
 split at h
 ·rename_i y hy
  split at h
  ·rename_i ht
   injection h with h
   subst h
   have hp : parse num' askr' s = some y := by
    rw [← ht.2]
    exact parse_text hn ht.1 (ha _ (fault_parts ht.1).2.2.2.1 (by rw [← ht.2]; exact txt_le y))
   rw [hp]
   unfold own
   simp only
   rw [if_pos ht]
  ·cases h
 ·cases h
theorem own_same {num num' : Bs → Option Int} {askr askr' : Bs → Option Ask} (hn : ∀ n, -1000 ≤ n → n ≤ 1000 → num (decI n) = some n) (hn' : ∀ n, -1000 ≤ n → n ≤ 1000 → num' (decI n) = some n) {s : Bs} (ha : ∀ x, x.fault = 0 → (Ar.txt x).length ≤ s.length → askr (Ar.txt x) = some x) (ha' : ∀ x, x.fault = 0 → (Ar.txt x).length ≤ s.length → askr' (Ar.txt x) = some x) : own (parse num askr s) s = own (parse num' askr' s) s := by
 cases h : own (parse num askr s) s with
 | some v => exact (own_key hn' ha' h).symm
 | none =>
  cases h' : own (parse num' askr' s) s with
  | none => rfl
  | some v => rw [own_key hn ha h'] at h; cases h
-- the two ways to read a number
def numA (s : Bs) : Option Int := match Lib.atoiAll s with
 | .ok v => some v
 | _ => none
theorem parse10 : ∀ (s : Bs) (acc : Nat), (∀ c, c ∈ s → isD c) → val acc s ≤ 18446744073709551615 → Lib.parseUint10 acc s = .ok (val acc s)
 | [], acc, _, _ => rfl
 | c :: s, acc, hd, hv => by
  have h1 := hd c (by simp)
  have hv2 : val (acc * 10 + (c.toNat - 48)) s ≤ 18446744073709551615 := hv
  have h3 := Nt.val_ge (acc * 10 + (c.toNat - 48)) s
  rw [Lib.parseUint10, if_pos (show 48 ≤ c.toNat ∧ c.toNat ≤ 57 from h1), if_neg (by omega), if_neg (by omega), parse10 s _ (fun x hx => hd x (by simp [hx])) hv2]
  rfl
theorem mag_dec {u : Nat} (h : u < 18446744073709551616) : Lib.parseMag (dec u) = .ok u := by
 obtain ⟨h1, h2⟩ := dec_val (u + 1) u (by omega)
 unfold Lib.parseMag
 rw [if_neg (dec_ne u), parse10 (dec u) 0 h2 (by rw [h1]; omega), h1]
theorem numA_dec (n : Int) (h0 : -1000 ≤ n) (h1 : n ≤ 1000) : numA (decI n) = some n := by
 by_cases hn : n < 0
 ·have e : Lib.atoiAll (decI n) = .ok n := by
   rw [show decI n = 45 :: dec n.natAbs by unfold decI; rw [if_pos hn], Lib.atoiAll_minus, mag_dec (by omega)]
   unfold Lib.signed
   simp only
   rw [if_neg (by omega)]
   congr 1
   omega
  unfold numA
  rw [e]
 ·have e : Lib.atoiAll (decI n) = .ok n := by
   rw [show decI n = dec n.toNat by unfold decI; rw [if_neg hn]]
   cases hd : dec n.toNat with
   | nil => exact absurd hd (dec_ne _)
   | cons c r =>
    have hc : isD c := (dec_val (n.toNat + 1) n.toNat (by omega)).2 c (by rw [hd]; simp)
    unfold isD at hc
    rw [Lib.atoiAll_plain c r (by omega) (by omega), ← hd, mag_dec (by omega)]
    unfold Lib.signless
    simp only
    rw [if_neg (by omega)]
    congr 1
    omega
  unfold numA
  rw [e]
theorem intOf_decI (n : Int) (h0 : -1000 ≤ n) (h1 : n ≤ 1000) : intOf (decI n) = some n := by
 by_cases hn : n < 0
 ·obtain ⟨e1, e2⟩ := dec_val (n.natAbs + 1) n.natAbs (by omega)
  have hdI : decI n = 45 :: dec n.natAbs := by unfold decI; rw [if_pos hn]
  have hdg : digs (dec n.natAbs) = some n.natAbs := by
   unfold digs
   rw [if_pos ⟨e2, dec_len 18 n.natAbs (by omega)⟩, e1]
  rw [hdI]
  unfold intOf
  simp only [if_true]
  rw [hdg]
  simp only
  have hnn : (-((n.natAbs : Nat) : Int)) = n := by omega
  rw [if_neg (by simp [dec_ne]; omega), hnn, if_pos hdI]
 ·rw [show decI n = dec n.toNat by unfold decI; rw [if_neg hn], intOf_dec (by omega)]
  rw [show ((n.toNat : Nat) : Int) = n by omega]
def askS (s : Bs) : Option Ask := if 2000 < s.length then none else Ar.own (Ar.readR s) s
def askL (s : Bs) : Option Ask := Ar.own (Ar.readR s) s
theorem askL_text {x : Ask} (h : x.fault = 0) : askL (Ar.txt x) = some x := by
 unfold askL
 rw [Ar.readR_text h]
 unfold Ar.own
 simp only
 rw [if_pos ⟨h, trivial⟩]
theorem askS_text {x : Ask} (h : x.fault = 0) (hl : (Ar.txt x).length ≤ 2000) : askS (Ar.txt x) = some x := by
 unfold askS
 rw [if_neg (by omega)]
 exact askL_text h
def rdA (s : Bs) : Option Jb := own (parse numA askS s) s
def rdR (s : Bs) : Option Jb := own (parse intOf askL s) s
theorem rd_same {s : Bs} (hs : s.length ≤ 2000) : rdA s = rdR s :=
 own_same (fun n h0 h1 => numA_dec n h0 h1) (fun n h0 h1 => intOf_decI n h0 h1) (fun x hx hl => askS_text hx (by omega)) (fun x hx hl => askL_text hx)
end Go.Proofs.YtkemlckmfgacdaaGreatDoor.Jm
