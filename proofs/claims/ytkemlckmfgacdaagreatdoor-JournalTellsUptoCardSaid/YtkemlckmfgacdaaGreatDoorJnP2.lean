/- Plain: the text of an amount; the two ways to read it; that they tell the same. -/
import Derived.Test.YtkemlckmfgacdaaGreatDoorJnP0
import Derived.Lib.ItoaNum
import Derived.Lib.ParseIntB
import Derived.Lib.SplitLaws
namespace Go.Proofs.YtkemlckmfgacdaaGreatDoor.Nt
set_option maxRecDepth 20000
set_option maxHeartbeats 64000000
open Go.Proofs.YtkemlckmfgacdaaGreatDoor.Tp
set_option linter.unusedVariables false
def pcs (c : UInt8) : Bs → List Bs
 | [] => [[]]
 | x :: r => if x = c then [] :: pcs c r else match pcs c r with | [] => [[x]] | h :: t => (x :: h) :: t
theorem pcs_ne (c : UInt8) (s : Bs) : pcs c s ≠ [] := by
 cases s with
 | nil => simp [pcs]
 | cons x r =>
  rw [pcs]
  split
  ·simp
  ·split <;> simp
theorem pcs_none {c : UInt8} : ∀ {s : Bs}, (∀ x, x ∈ s → x ≠ c) → pcs c s = [s]
 | [], _ => rfl
 | x :: r, h => by
  rw [pcs, if_neg (h x (by simp)), pcs_none (fun y hy => h y (by simp [hy]))]
theorem pcs_hit {c : UInt8} : ∀ {p : Bs} {r : Bs}, (∀ x, x ∈ p → x ≠ c) → pcs c (p ++ c :: r) = p :: pcs c r
 | [], r, _ => by simp [pcs]
 | x :: p, r, h => by
  rw [List.cons_append, pcs, if_neg (h x (by simp)), pcs_hit (fun y hy => h y (by simp [hy]))]
theorem split_pcs (c : UInt8) : ∀ (k : Nat) (s : Bs), Lib.count s [c] = k → Lib.splitK [c] 0 k s = pcs c s := by
 intro k
 induction k with
 | zero =>
  intro s hk
  rw [Lib.count_one] at hk
  rw [pcs_none (fun x hx e => by subst e; exact absurd hk (Nat.ne_of_gt (List.count_pos_iff.2 hx)))]
  rfl
 | succ k ih =>
  intro s hk
  have hi := index_one c s
  cases hf : (cutB c s).2.2 with
  | false =>
   obtain ⟨_, _, h3⟩ := cutB_miss hf
   rw [Lib.count_one] at hk
   have : List.count c s = 0 := List.count_eq_zero.2 (fun hx => h3 c hx rfl)
   omega
  | true =>
   obtain ⟨h1, h2⟩ := cutB_hit hf
   rw [hf, if_pos rfl] at hi
   obtain ⟨p, hp⟩ : ∃ p, (cutB c s).1 = p := ⟨_, rfl⟩
   obtain ⟨r, hr⟩ : ∃ p, (cutB c s).2.1 = p := ⟨_, rfl⟩
   rw [hp, hr] at h1
   rw [hp] at h2 hi
   subst h1
   rw [Lib.count_one, List.count_append, List.count_cons, List.count_eq_zero.2 (fun hx => h2 c hx rfl)] at hk
   rw [Lib.splitK, if_neg (by rw [hi]; simp), hi, pcs_hit h2]
   have e1 : ((p.length : Int).toNat + 0) = p.length := by omega
   have e2 : ((p.length : Int).toNat + [c].length) = p.length + 1 := by simp
   rw [e1, e2, List.take_left' rfl, show (p ++ c :: r).drop (p.length + 1) = r from by simp [List.drop_append]]
   rw [ih r (by rw [Lib.count_one]; simp at hk; omega)]
def joinC : List Bs → Bs
 | [] => []
 | [x] => x
 | x :: y :: l => x ++ 44 :: joinC (y :: l)
theorem pcs_join : ∀ {l : List Bs}, l ≠ [] → (∀ t, t ∈ l → ∀ x, x ∈ t → x ≠ 44) → pcs 44 (joinC l) = l
 | [], h, _ => absurd rfl h
 | [x], _, h => by rw [joinC]; exact pcs_none (h x (by simp))
 | x :: y :: l, _, h => by
  rw [joinC, pcs_hit (h x (by simp)), pcs_join (by simp) (fun t ht => h t (by simp at ht ⊢; exact .inr ht))]
def val (u : Nat) (s : Bs) : Nat := s.foldl (fun u c => u * 10 + (c.toNat - 48)) u
def isD (c : UInt8) : Prop := 48 ≤ c.toNat ∧ c.toNat ≤ 57
instance (c : UInt8) : Decidable (isD c) := by unfold isD; infer_instance
def dec (u : Nat) : Bs := Lib.decDigits u
theorem dec_small {u : Nat} (h : u < 10) : dec u = [UInt8.ofNat (48 + u)] := by
 unfold dec
 rw [Lib.decDigits, dif_pos h]
theorem dec_big {u : Nat} (h : ¬ u < 10) : dec u = dec (u / 10) ++ [UInt8.ofNat (48 + u % 10)] := by
 show Lib.decDigits u = _
 rw [Lib.decDigits, dif_neg h]
 rfl
theorem dg_nat {d : Nat} (h : d < 10) : (UInt8.ofNat (48 + d)).toNat = 48 + d := by
 rw [UInt8.toNat_ofNat']; omega
theorem val_append (u : Nat) (a b : Bs) : val u (a ++ b) = val (val u a) b := by simp [val, List.foldl_append]
theorem dec_val : ∀ (N u : Nat), u < N → val 0 (dec u) = u ∧ ∀ c, c ∈ dec u → isD c := by
 intro N
 induction N with
 | zero => intro u h; omega
 | succ N ih =>
  intro u h
  by_cases h9 : u < 10
  ·rw [dec_small h9]
   refine ⟨?_, fun c hc => ?_⟩
   ·show 0 * 10 + ((UInt8.ofNat (48 + u)).toNat - 48) = u
    rw [dg_nat h9]; omega
   ·rw [List.mem_singleton] at hc
    subst hc
    unfold isD; rw [dg_nat h9]; omega
  ·obtain ⟨h1, h2⟩ := ih (u / 10) (by omega)
   have hm : u % 10 < 10 := Nat.mod_lt _ (by omega)
   rw [dec_big h9]
   refine ⟨?_, fun c hc => ?_⟩
   ·rw [val_append, h1]
    show u / 10 * 10 + ((UInt8.ofNat (48 + u % 10)).toNat - 48) = u
    rw [dg_nat hm]; omega
   ·rw [List.mem_append] at hc
    rcases hc with hc | hc
    ·exact h2 c hc
    ·rw [List.mem_singleton] at hc
     subst hc
     unfold isD; rw [dg_nat hm]; omega
theorem dec_ne (u : Nat) : dec u ≠ [] := by
 by_cases h : u < 10
 ·rw [dec_small h]; simp
 ·rw [dec_big h]; simp
theorem dec_len : ∀ (k u : Nat), u < 10 ^ (k + 1) → (dec u).length ≤ k + 1
 | 0, u, h => by rw [dec_small (by simpa using h)]; simp
 | k + 1, u, h => by
  by_cases h1 : u < 10
  ·rw [dec_small h1]; simp
  ·rw [dec_big h1, List.length_append]
   have := dec_len k (u / 10) (by rw [Nat.pow_succ] at h; omega)
   simp; omega
theorem val_ge (u : Nat) (s : Bs) : u ≤ val u s := by
 induction s generalizing u with
 | nil => exact Nat.le_refl _
 | cons c s ih =>
  have := ih (u * 10 + (c.toNat - 48))
  show u ≤ val (u * 10 + (c.toNat - 48)) s
  omega
theorem parseM {M : Nat} (hM : M ≤ 18446744073709551615) : ∀ (s : Bs) (acc : Nat), (∀ c, c ∈ s → isD c) → val acc s ≤ M → Lib.parseUintM M acc s = .ok (val acc s)
 | [], acc, _, _ => rfl
 | c :: s, acc, hd, hv => by
  have h1 := hd c (by simp)
  have hv2 : val (acc * 10 + (c.toNat - 48)) s ≤ M := hv
  have h3 := val_ge (acc * 10 + (c.toNat - 48)) s
  rw [Lib.parseUintM, if_pos (show 48 ≤ c.toNat ∧ c.toNat ≤ 57 from h1), if_neg (by omega), if_neg (by omega), parseM hM s _ (fun x hx => hd x (by simp [hx])) hv2]
  rfl
theorem parse_dec {u : Nat} (h : u < 9223372036854775808) : Lib.parseIntB 64 (dec u) = .ok (u : Int) := by
 obtain ⟨h1, h2⟩ := dec_val (u + 1) u (by omega)
 cases hd : dec u with
 | nil => exact absurd hd (dec_ne u)
 | cons c r =>
  have hc : isD c := h2 c (by rw [hd]; simp)
  unfold isD at hc
  unfold Lib.parseIntB
  simp only
  have hp : Lib.parseUintB 64 (c :: r) = .ok u := by
   unfold Lib.parseUintB
   rw [if_neg (by simp), ← hd]
   have := parseM (M := 2 ^ 64 - 1) (by omega) (dec u) 0 h2 (by rw [h1]; omega)
   rw [this, h1]
  rw [if_neg (by omega), hp]
  simp only
  rw [if_neg (by omega), if_neg (by omega), if_neg (by omega)]
abbrev V3 := Nat × Nat × Nat
def cpu : Bs := [99, 112, 117]
def mem : Bs := [109, 101, 109]
def gpu : Bs := [103, 112, 117]
def ent (n : Bs) (u : Nat) : List Bs := if u = 0 then [] else [n ++ 61 :: dec u]
def ents (v : V3) : List Bs := ent cpu v.1 ++ ent mem v.2.1 ++ ent gpu v.2.2
def needText (v : V3) : Bs := if ents v = [] then [45] else joinC (ents v)
def setV (v : V3) (n : Bs) (u : Nat) : V3 := (if n = cpu then u else v.1, if n = mem then u else v.2.1, if n = gpu then u else v.2.2)
def stepP (v : V3) (x : Bs) : Option V3 :=
 match Lib.parseIntB 64 (cutB 61 x).2.1 with
 | .ok n => if n ≤ 0 then none else some (setV v (cutB 61 x).1 n.toNat)
 | _ => none
def foldO (f : V3 → Bs → Option V3) : V3 → List Bs → Option V3
 | v, [] => some v
 | v, x :: l => match f v x with | none => none | some v' => foldO f v' l
def readP (s : Bs) : Option V3 := if s = [45] then some (0, 0, 0) else foldO stepP (0, 0, 0) (pcs 44 s)
def digs (s : Bs) : Option Nat := if (∀ c, c ∈ s → isD c) ∧ s.length ≤ 19 then some (val 0 s) else none
def decI (n : Int) : Bs := if n < 0 then 45 :: dec n.natAbs else dec n.toNat
def intOf (s : Bs) : Option Int :=
 match s with
 | [] => none
 | c :: r =>
  match digs (if c = 45 then r else s) with
  | none => none
  | some u =>
   if (if c = 45 then r else s) = [] ∨ 9223372036854775808 < u ∨ (u = 9223372036854775808 ∧ c ≠ 45) then none
   else if decI (if c = 45 then -(u : Int) else u) = s then some (if c = 45 then -(u : Int) else u) else none
theorem intOf_dec {u : Nat} (h : u < 9223372036854775808) : intOf (dec u) = some (u : Int) := by
 obtain ⟨h1, h2⟩ := dec_val (u + 1) u (by omega)
 cases hd : dec u with
 | nil => exact absurd hd (dec_ne u)
 | cons c r =>
  have hc : isD c := h2 c (by rw [hd]; simp)
  have hne : c ≠ 45 := fun e => by subst e; unfold isD at hc; simp at hc
  have hdg : digs (c :: r) = some u := by
   unfold digs
   rw [if_pos ⟨by rw [← hd]; exact h2, by rw [← hd]; exact dec_len 18 u (by omega)⟩, ← hd, h1]
  unfold intOf
  simp only [if_neg hne]
  rw [hdg]
  simp only
  rw [if_neg (by simp [hne]; omega), if_pos (by unfold decI; rw [if_neg (by omega), Int.toNat_natCast, hd])]
theorem intOf_lt {s : Bs} {n : Int} (h : intOf s = some n) : n < 9223372036854775808 := by
 unfold intOf at h
 cases s with
 | nil => cases h
 | cons c r =>
  simp only at h
  by_cases hc : c = 45
  ·simp only [if_pos hc] at h
   cases hd : digs r with
   | none => rw [hd] at h; cases h
   | some u =>
    rw [hd] at h
    simp only at h
    split at h
    ·cases h
    ·split at h
     ·injection h with h; omega
     ·cases h
  ·simp only [if_neg hc] at h
   cases hd : digs (c :: r) with
   | none => rw [hd] at h; cases h
   | some u =>
    rw [hd] at h
    simp only at h
    split at h
    ·cases h
    ·rename_i hh
     split at h
     ·injection h with h
      have h1 : ¬ 9223372036854775808 < u := fun e => hh (.inr (.inl e))
      have h2 : u ≠ 9223372036854775808 := fun e => hh (.inr (.inr ⟨e, hc⟩))
      omega
     ·cases h
def stepR (v : V3) (x : Bs) : Option V3 :=
 if 4 < x.length ∧ (x.take 4 = cpu ++ [61] ∨ x.take 4 = mem ++ [61] ∨ x.take 4 = gpu ++ [61]) then
  match intOf (x.drop 4) with
  | some n => if n ≤ 0 then none else some (setV v (x.take 3) n.toNat)
  | none => none
 else none
def readR (s : Bs) : Option V3 := if s = [45] then some (0, 0, 0) else foldO stepR (0, 0, 0) (pcs 44 s)
def Can (v : V3) : Prop := v.1 < 9223372036854775808 ∧ v.2.1 < 9223372036854775808 ∧ v.2.2 < 9223372036854775808
theorem setV_can {v : V3} {n : Bs} {u : Nat} (h : Can v) (hu : u < 9223372036854775808) : Can (setV v n u) := by
 obtain ⟨h1, h2, h3⟩ := h
 unfold Can setV
 simp only
 refine ⟨?_, ?_, ?_⟩ <;> split <;> assumption
theorem foldO_can {f : V3 → Bs → Option V3} (hf : ∀ v x v', Can v → f v x = some v' → Can v') : ∀ (l : List Bs) (v v' : V3), Can v → foldO f v l = some v' → Can v'
 | [], v, v', h, e => by rw [foldO] at e; cases e; exact h
 | x :: l, v, v', h, e => by
  rw [foldO] at e
  cases hx : f v x with
  | none => rw [hx] at e; cases e
  | some y => rw [hx] at e; exact foldO_can hf l y v' (hf v x y h hx) e
theorem parse_lt {s : Bs} {n : Int} (h : Lib.parseIntB 64 s = .ok n) : n < 9223372036854775808 := by
 unfold Lib.parseIntB at h
 split at h
 ·cases h
 ·simp only at h
  split at h
  ·cases h
  ·cases h
  ·split at h
   ·cases h
   ·rename_i h1
    split at h
    ·cases h
    ·injection h with h
     subst h
     split
     ·omega
     ·rename_i hn
      have := not_and.1 h1 hn
      omega
theorem stepP_can {v : V3} {x : Bs} {v' : V3} (h : Can v) (e : stepP v x = some v') : Can v' := by
 unfold stepP at e
 split at e
 ·rename_i n hn
  split at e
  ·cases e
  ·injection e with e
   subst e
   have := parse_lt hn
   exact setV_can h (by omega)
 ·cases e
theorem stepR_can {v : V3} {x : Bs} {v' : V3} (h : Can v) (e : stepR v x = some v') : Can v' := by
 unfold stepR at e
 split at e
 ·split at e
  ·rename_i n hn
   split at e
   ·cases e
   ·injection e with e
    subst e
    have := intOf_lt hn
    exact setV_can h (by omega)
  ·cases e
 ·cases e
theorem can0 : Can (0, 0, 0) := ⟨by decide, by decide, by decide⟩
theorem readP_can {s : Bs} {v : V3} (h : readP s = some v) : Can v := by
 unfold readP at h
 split at h
 ·injection h with h; subst h; exact can0
 ·exact foldO_can (fun _ _ _ => stepP_can) _ _ _ can0 h
theorem readR_can {s : Bs} {v : V3} (h : readR s = some v) : Can v := by
 unfold readR at h
 split at h
 ·injection h with h; subst h; exact can0
 ·exact foldO_can (fun _ _ _ => stepR_can) _ _ _ can0 h
theorem cut_ent {n : Bs} {r : Bs} (h : ∀ x, x ∈ n → x ≠ (61 : UInt8)) : cutB 61 (n ++ 61 :: r) = (n, r, true) := by
 induction n with
 | nil => simp [cutB]
 | cons x n ih =>
  have := ih (fun y hy => h y (by simp [hy]))
  rw [List.cons_append, cutB, if_neg (by have := h x (by simp); simpa using this), this]
theorem stepP_ent {v : V3} {n : Bs} {u : Nat} (h : ∀ x, x ∈ n → x ≠ (61 : UInt8)) (h0 : u ≠ 0) (hu : u < 9223372036854775808) : stepP v (n ++ 61 :: dec u) = some (setV v n u) := by
 unfold stepP
 rw [cut_ent h]
 simp only
 rw [parse_dec hu]
 simp only
 rw [if_neg (by omega), Int.toNat_natCast]
theorem stepR_ent {v : V3} {n : Bs} {u : Nat} (h : n = cpu ∨ n = mem ∨ n = gpu) (h0 : u ≠ 0) (hu : u < 9223372036854775808) : stepR v (n ++ 61 :: dec u) = some (setV v n u) := by
 have h3 : n.length = 3 := by rcases h with rfl | rfl | rfl <;> rfl
 have hl : 4 < (n ++ 61 :: dec u).length := by
  have := List.length_pos_iff.2 (dec_ne u)
  simp; omega
 have e4 : (n ++ 61 :: dec u).take 4 = n ++ [61] := by
  rw [show n ++ 61 :: dec u = (n ++ [61]) ++ dec u from by simp, List.take_left' (by simp [h3])]
 have e3 : (n ++ 61 :: dec u).take 3 = n := List.take_left' h3
 have d4 : (n ++ 61 :: dec u).drop 4 = dec u := by
  rw [show n ++ 61 :: dec u = (n ++ [61]) ++ dec u from by simp, List.drop_left' (by simp [h3])]
 unfold stepR
 rw [if_pos ⟨hl, by rw [e4]; rcases h with rfl | rfl | rfl <;> simp⟩, d4, intOf_dec hu, e3]
 simp only
 rw [if_neg (by omega), Int.toNat_natCast]
theorem no61 {n : Bs} (h : n = cpu ∨ n = mem ∨ n = gpu) : ∀ x, x ∈ n → x ≠ (61 : UInt8) := by
 rcases h with rfl | rfl | rfl <;> decide
theorem no44 {n : Bs} (h : n = cpu ∨ n = mem ∨ n = gpu) : ∀ x, x ∈ n → x ≠ (44 : UInt8) := by
 rcases h with rfl | rfl | rfl <;> decide
theorem ent44 {n : Bs} {u : Nat} (h : n = cpu ∨ n = mem ∨ n = gpu) : ∀ t, t ∈ ent n u → ∀ x, x ∈ t → x ≠ (44 : UInt8) := by
 intro t ht x hx
 unfold ent at ht
 split at ht
 ·cases ht
 ·simp at ht; subst ht
  rw [List.mem_append] at hx
  rcases hx with hx | hx
  ·exact no44 h x hx
  ·rw [List.mem_cons] at hx
   rcases hx with rfl | hx
   ·decide
   ·have := (dec_val (u + 1) u (by omega)).2 x hx
    intro e; subst e; unfold isD at this; simp at this
theorem ents44 (v : V3) : ∀ t, t ∈ ents v → ∀ x, x ∈ t → x ≠ (44 : UInt8) := by
 intro t ht
 unfold ents at ht
 rw [List.mem_append, List.mem_append] at ht
 rcases ht with (ht | ht) | ht
 ·exact ent44 (.inl rfl) t ht
 ·exact ent44 (.inr (.inl rfl)) t ht
 ·exact ent44 (.inr (.inr rfl)) t ht
theorem fold_ent {f : V3 → Bs → Option V3} (hf : ∀ (v : V3) (n : Bs) (u : Nat), n = cpu ∨ n = mem ∨ n = gpu → u ≠ 0 → u < 9223372036854775808 → f v (n ++ 61 :: dec u) = some (setV v n u)) {n : Bs} {u : Nat} (hn : n = cpu ∨ n = mem ∨ n = gpu) (hu : u < 9223372036854775808) (v : V3) (l : List Bs) : foldO f v (ent n u ++ l) = foldO f (if u = 0 then v else setV v n u) l := by
 unfold ent
 by_cases h : u = 0
 ·rw [if_pos h, if_pos h]; rfl
 ·rw [if_neg h, if_neg h, List.singleton_append, foldO, hf v n u hn h hu]
theorem fold_ents {f : V3 → Bs → Option V3} (hf : ∀ (v : V3) (n : Bs) (u : Nat), n = cpu ∨ n = mem ∨ n = gpu → u ≠ 0 → u < 9223372036854775808 → f v (n ++ 61 :: dec u) = some (setV v n u)) {v : V3} (h : Can v) : foldO f (0, 0, 0) (ents v) = some v := by
 obtain ⟨a, b, c⟩ := v
 obtain ⟨h1, h2, h3⟩ := h
 unfold ents
 rw [List.append_assoc, fold_ent hf (.inl rfl) h1, fold_ent hf (.inr (.inl rfl)) h2, ← List.append_nil (ent gpu _), fold_ent hf (.inr (.inr rfl)) h3, foldO]
 by_cases ha : a = 0 <;> by_cases hb : b = 0 <;> by_cases hc : c = 0 <;> simp [ha, hb, hc, setV, cpu, mem, gpu]
theorem text_dash {v : V3} (h : needText v = [45]) : ents v = [] := by
 unfold needText at h
 split at h
 ·assumption
 ·rename_i hne
  exfalso
  have h2 := pcs_join hne (ents44 v)
  rw [h] at h2
  have h3 : ents v = [[45]] := by rw [← h2]; rfl
  have : ([45] : Bs) ∈ ents v := by rw [h3]; simp
  unfold ents ent at this
  simp only [List.mem_append] at this
  rcases this with (h | h) | h <;> (split at h <;> simp [cpu, mem, gpu] at h)
theorem ents_nil {v : V3} (h : ents v = []) : v = (0, 0, 0) := by
 obtain ⟨a, b, c⟩ := v
 unfold ents ent at h
 simp only [List.append_eq_nil_iff] at h
 obtain ⟨⟨h1, h2⟩, h3⟩ := h
 have e1 : a = 0 := by by_cases e : a = 0; exact e; rw [if_neg e] at h1; cases h1
 have e2 : b = 0 := by by_cases e : b = 0; exact e; rw [if_neg e] at h2; cases h2
 have e3 : c = 0 := by by_cases e : c = 0; exact e; rw [if_neg e] at h3; cases h3
 rw [e1, e2, e3]
theorem read_text {f : V3 → Bs → Option V3} (hf : ∀ (v : V3) (n : Bs) (u : Nat), n = cpu ∨ n = mem ∨ n = gpu → u ≠ 0 → u < 9223372036854775808 → f v (n ++ 61 :: dec u) = some (setV v n u)) {v : V3} (h : Can v) : (if needText v = [45] then some (0, 0, 0) else foldO f (0, 0, 0) (pcs 44 (needText v))) = some v := by
 by_cases hd : needText v = [45]
 ·rw [if_pos hd, ents_nil (text_dash hd)]
 ·rw [if_neg hd]
  have hne : ents v ≠ [] := fun e => hd (by unfold needText; rw [if_pos e])
  have : needText v = joinC (ents v) := by unfold needText; rw [if_neg hne]
  rw [this, pcs_join hne (ents44 v)]
  exact fold_ents hf h
theorem readP_text {v : V3} (h : Can v) : readP (needText v) = some v := read_text (fun v n u hn h0 hu => stepP_ent (no61 hn) h0 hu) h
theorem readR_text {v : V3} (h : Can v) : readR (needText v) = some v := read_text (fun v n u hn h0 hu => stepR_ent hn h0 hu) h
def own (r : Option V3) (s : Bs) : Option V3 := match r with | none => none | some v => if needText v = s then some v else none
theorem own_same (s : Bs) : own (readP s) s = own (readR s) s := by
 have key : ∀ {r r' : Option V3}, (∀ v, r = some v → Can v) → (∀ v, Can v → needText v = s → r' = some v) → ∀ v, own r s = some v → own r' s = some v := by
  intro r r' h1 h2 v hv
  unfold own at hv
  split at hv
  ·cases hv
  ·rename_i y
   split at hv
   ·rename_i ht
    injection hv with hv
    subst hv
    rw [h2 y (h1 y rfl) ht]
    unfold own
    simp only
    rw [if_pos ht]
   ·cases hv
 have hPR := @key (readP s) (readR s) (fun v h => readP_can h) (fun v hc ht => by rw [← ht]; exact readR_text hc)
 have hRP := @key (readR s) (readP s) (fun v h => readR_can h) (fun v hc ht => by rw [← ht]; exact readP_text hc)
 cases h : own (readP s) s with
 | some v => exact (hPR v h).symm
 | none =>
  cases h' : own (readR s) s with
  | none => rfl
  | some v => rw [hRP v h'] at h; cases h
end Go.Proofs.YtkemlckmfgacdaaGreatDoor.Nt
