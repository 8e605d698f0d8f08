/- Plain: the text of an ask, as deep as it goes; the two ways to read it; that they tell the same. -/
import Derived.Test.YtkemlckmfgacdaaGreatDoorJnP1
import Derived.Test.YtkemlckmfgacdaaGreatDoorJnP2
namespace Go.Proofs.YtkemlckmfgacdaaGreatDoor.Ar
set_option maxRecDepth 20000
set_option maxHeartbeats 64000000
open Go.Proofs.YtkemlckmfgacdaaGreatDoor.Tp
open Go.Proofs.YtkemlckmfgacdaaGreatDoor.Nt (dec dec_val dec_ne parse_dec intOf intOf_dec isD)
set_option linter.unusedVariables false
set_option linter.unusedSimpArgs false
def sgn (c : UInt8) : Bool := c == 63 || c == 61 || c == 62 || c == 33 || c == 40 || c == 41 || c == 38 || c == 124
def word (s : Bs) : Bs := s.takeWhile fun c => !sgn c
def rest (s : Bs) : Bs := s.dropWhile fun c => !sgn c
def Stop (s : Bs) : Prop := s = [] ∨ ∃ c t, s = c :: t ∧ sgn c = true
theorem word_stop {w s : Bs} (hw : ∀ c, c ∈ w → sgn c = false) (hs : Stop s) : word (w ++ s) = w ∧ rest (w ++ s) = s := by
 induction w with
 | nil =>
  rcases hs with rfl | ⟨c, t, rfl, hc⟩
  ·exact ⟨rfl, rfl⟩
  ·unfold word rest
   simp [List.takeWhile, List.dropWhile, hc]
 | cons x w ih =>
  obtain ⟨h1, h2⟩ := ih (fun c hc => hw c (by simp [hc]))
  have hx := hw x (by simp)
  unfold word rest at *
  rw [List.cons_append, List.takeWhile_cons_of_pos (by simp [hx]), List.dropWhile_cons_of_pos (by simp [hx]), h1, h2]
  exact ⟨rfl, rfl⟩
mutual
def txt : Ask → Bs
 | .mk k a b n l => if k = 1 then 63 :: a else if k = 2 then a ++ 61 :: b else if k = 3 then a ++ 62 :: 61 :: dec n.toNat else if k = 4 then 33 :: txts 0 l else 40 :: txts k l
def txts (k : Int) : List Ask → Bs
 | [] => []
 | x :: l => if k = 0 then txt x else if k = 41 then txt x ++ [41] else txt x ++ (if k = 5 then 38 else 124) :: txts 41 l
end
theorem txt4 (y : Ask) (a b : Bs) (n : Int) : txt (.mk 4 a b n [y]) = 33 :: txt y := by simp [txt, txts]
theorem txt5 (x y : Ask) (a b : Bs) (n : Int) : txt (.mk 5 a b n [x, y]) = 40 :: (txt x ++ 38 :: (txt y ++ [41])) := by simp [txt, txts]
theorem txt6 (x y : Ask) (a b : Bs) (n : Int) : txt (.mk 6 a b n [x, y]) = 40 :: (txt x ++ 124 :: (txt y ++ [41])) := by simp [txt, txts]
def askP : Nat → Nat → Bs → Option (Ask × Bs × Nat)
 | 0, _, _ => none
 | N + 1, left, s =>
  if left = 0 then none else
  match s with
  | 63 :: t => some (.mk 1 (word t) [] 0 [], rest t, left - 1)
  | 33 :: t => match askP N (left - 1) t with
   | none => none
   | some (y, r, l) => some (.mk 4 [] [] 0 [y], r, l)
  | 40 :: t => match askP N (left - 1) t with
   | none => none
   | some (a, r, l) => match r with
    | 124 :: r' => match askP N l r' with
     | some (b, 41 :: r2, l2) => some (.mk 6 [] [] 0 [a, b], r2, l2)
     | _ => none
    | 38 :: r' => match askP N l r' with
     | some (b, 41 :: r2, l2) => some (.mk 5 [] [] 0 [a, b], r2, l2)
     | _ => none
    | _ => none
  | s => match rest s with
   | 62 :: 61 :: t => match Lib.parseIntB 64 (word t) with
    | .ok n => some (.mk 3 (word s) [] n [], rest t, left - 1)
    | _ => none
   | 61 :: t => some (.mk 2 (word s) (word t) 0 [], rest t, left - 1)
   | _ => none
def askR : Nat → Bs → Option (Ask × Bs)
 | 0, _ => none
 | deep + 1, s =>
  match s with
  | [] => none
  | 63 :: t => some (.mk 1 (word t) [] 0 [], rest t)
  | 33 :: t => match askR deep t with
   | none => none
   | some (y, r) => some (.mk 4 [] [] 0 [y], r)
  | 40 :: t => match askR deep t with
   | none => none
   | some (a, r) => match r with
    | 124 :: r' => match askR deep r' with
     | some (b, 41 :: r2) => some (.mk 6 [] [] 0 [a, b], r2)
     | _ => none
    | 38 :: r' => match askR deep r' with
     | some (b, 41 :: r2) => some (.mk 5 [] [] 0 [a, b], r2)
     | _ => none
    | _ => none
  | s => match rest s with
   | 62 :: 61 :: t => match intOf (word t) with
    | some n => some (.mk 3 (word s) [] n [], rest t)
    | none => none
   | 61 :: t => some (.mk 2 (word s) (word t) 0 [], rest t)
   | _ => none
theorem labC_sgn {c : UInt8} (h : labC c = true) : sgn c = false := by
 unfold labC small at h
 simp only [Bool.or_eq_true, decide_eq_true_eq] at h
 unfold sgn
 simp only [Bool.or_eq_false_iff, beq_eq_false_iff_ne]
 have hn : ∀ d : UInt8, (d.toNat = 63 ∨ d.toNat = 61 ∨ d.toNat = 62 ∨ d.toNat = 33 ∨ d.toNat = 40 ∨ d.toNat = 41 ∨ d.toNat = 38 ∨ d.toNat = 124) → c ≠ d := fun d hd e => by subst e; omega
 refine ⟨⟨⟨⟨⟨⟨⟨hn _ ?_, hn _ ?_⟩, hn _ ?_⟩, hn _ ?_⟩, hn _ ?_⟩, hn _ ?_⟩, hn _ ?_⟩, hn _ ?_⟩ <;> decide
theorem isD_sgn {c : UInt8} (h : isD c) : sgn c = false := labC_sgn (by
 unfold isD at h
 unfold labC
 simp only [Bool.or_eq_true, decide_eq_true_eq]
 exact .inl (.inr h))
theorem lab_sgn {s : Bs} (h : lab s = true) : ∀ c, c ∈ s → sgn c = false := by
 cases s with
 | nil => intro c hc; cases hc
 | cons x s =>
  unfold lab at h
  simp only [Bool.and_eq_true] at h
  intro c hc
  rcases List.mem_cons.1 hc with rfl | hc
  ·exact labC_sgn (by unfold labC; rw [h.1.1]; rfl)
  ·exact labC_sgn (List.all_eq_true.1 h.1.2 c hc)
theorem unit_sgn {s : Bs} (h : Ask.unit s = true) : ∀ c, c ∈ s → sgn c = false := by
 unfold Ask.unit at h
 simp only [Bool.or_eq_true, decide_eq_true_eq] at h
 rcases h with (h | h) | h <;> subst h <;> decide
theorem lab_ne {s : Bs} (h : lab s = true) : s ≠ [] := fun e => by rw [e] at h; cases h
theorem unit_ne {s : Bs} (h : Ask.unit s = true) : s ≠ [] := by
 unfold Ask.unit at h
 simp only [Bool.or_eq_true, decide_eq_true_eq] at h
 rcases h with (h | h) | h <;> subst h <;> decide
theorem dec_sgn (u : Nat) : ∀ c, c ∈ dec u → sgn c = false := fun c hc => isD_sgn ((dec_val (u + 1) u (by omega)).2 c hc)
theorem askP_word {N left : Nat} {s : Bs} (h0 : left ≠ 0) (hs : ∀ c t, s = c :: t → sgn c = false) : askP (N + 1) left s = match rest s with
   | 62 :: 61 :: t => match Lib.parseIntB 64 (word t) with
    | .ok n => some (.mk 3 (word s) [] n [], rest t, left - 1)
    | _ => none
   | 61 :: t => some (.mk 2 (word s) (word t) 0 [], rest t, left - 1)
   | _ => none := by
 rw [askP, if_neg h0]
 all_goals first | rfl | (intro t e; exact absurd (hs _ _ e) (by decide))
theorem askR_word {deep : Nat} {s : Bs} (h0 : s ≠ []) (hs : ∀ c t, s = c :: t → sgn c = false) : askR (deep + 1) s = match rest s with
   | 62 :: 61 :: t => match intOf (word t) with
    | some n => some (.mk 3 (word s) [] n [], rest t)
    | none => none
   | 61 :: t => some (.mk 2 (word s) (word t) 0 [], rest t)
   | _ => none := by
 rw [askR]
 all_goals first | rfl | exact h0 | (intro t e; exact absurd (hs _ _ e) (by decide))
theorem stop41 (s : Bs) : Stop (41 :: s) := .inr ⟨41, s, rfl, by decide⟩
theorem stop38 (s : Bs) : Stop (38 :: s) := .inr ⟨38, s, rfl, by decide⟩
theorem stop124 (s : Bs) : Stop (124 :: s) := .inr ⟨124, s, rfl, by decide⟩
theorem stop61 (s : Bs) : Stop (61 :: s) := .inr ⟨61, s, rfl, by decide⟩
theorem stop62 (s : Bs) : Stop (62 :: s) := .inr ⟨62, s, rfl, by decide⟩
theorem first_of {a s : Bs} (h : a ≠ []) (ha : ∀ c, c ∈ a → sgn c = false) : ∀ c t, a ++ s = c :: t → sgn c = false := fun c t e => by
 cases a with
 | nil => exact absurd rfl h
 | cons x a => rw [List.cons_append] at e; injection e with e1 e2; subst e1; exact ha x (by simp)
inductive Good : Ask → Prop where
 | has {a : Bs} (h : lab a = true) : Good (.mk 1 a [] 0 [])
 | is {a b : Bs} (h : lab a = true) (h2 : lab b = true) : Good (.mk 2 a b 0 [])
 | more {a : Bs} {n : Int} (h : Ask.unit a = true) (h0 : 0 ≤ n) (h1 : n ≤ 1099511627776) : Good (.mk 3 a [] n [])
 | not {y : Ask} (h : Good y) : Good (.mk 4 [] [] 0 [y])
 | and {x y : Ask} (h : Good x) (h2 : Good y) : Good (.mk 5 [] [] 0 [x, y])
 | or {x y : Ask} (h : Good x) (h2 : Good y) : Good (.mk 6 [] [] 0 [x, y])
theorem bad_parts {k : Int} {a b : Bs} {n : Int} {len : Nat} (h : Ask.bad k a b n len = 0) : (1 ≤ k ∧ k ≤ 6) ∧ len = Ask.inner k ∧ (4 ≤ k → a = []) ∧ (k ≠ 2 → b = []) ∧ (k ≠ 3 → n = 0) ∧ (k = 3 → Ask.unit a = true) ∧ (k = 1 ∨ k = 2 → lab a = true) ∧ (k = 2 → lab b = true) ∧ 0 ≤ n ∧ n ≤ 1099511627776 := by
 unfold Ask.bad at h
 split at h
 ·cases h
 rename_i h1
 split at h
 ·cases h
 rename_i h2
 split at h
 ·cases h
 rename_i h3
 split at h
 ·cases h
 rename_i h4
 simp only [not_or, not_and] at h1 h2 h3 h4
 refine ⟨by omega, by have := h2.1; omega, fun e => Classical.byContradiction (h2.2.1 e), fun e => Classical.byContradiction (h2.2.2.1 e), fun e => Classical.byContradiction (h2.2.2.2 e), fun e => by simpa using h3.1 e, fun e => by simpa using h3.2.1 e, fun e => by simpa using h3.2.2 e, by omega, by omega⟩
theorem good_of : ∀ (N : Nat) (x : Ask), x.size ≤ N → x.err = 0 → Good x := by
 intro N
 induction N with
 | zero => intro x h; have := Ask.one_le x; omega
 | succ N ih =>
  intro x hN he
  cases x with
  | mk k a b n l =>
   rw [Ask.err] at he
   split at he
   ·rename_i h1; exact absurd he h1
   rename_i hb
   have hb : Ask.bad k a b n l.length = 0 := Decidable.byContradiction hb
   obtain ⟨⟨k1, k6⟩, hl, ha, hbb, hn, h3, h12, h2, n0, n1⟩ := bad_parts hb
   have hsub : ∀ y, y ∈ l → Ask.errs l = 0 → y.err = 0 := by
    intro y hy
    have : ∀ l : List Ask, y ∈ l → Ask.errs l = 0 → y.err = 0 := by
     intro l
     induction l with
     | nil => intro h; cases h
     | cons z l ihl =>
      intro hy he
      rw [Ask.errs] at he
      split at he
      ·rename_i h1; exact absurd he h1
      ·rename_i h1
       rcases List.mem_cons.1 hy with rfl | hy
       ·exact Decidable.byContradiction h1
       ·exact ihl hy he
    exact this l hy
   have hsz : ∀ y, y ∈ l → y.size ≤ N := by
    intro y hy
    obtain ⟨i, hi⟩ := List.getElem?_of_mem hy
    have := Ask.size_sub (k := k) (a := a) (b := b) (n := n) hi
    omega
   have hk : k = 1 ∨ k = 2 ∨ k = 3 ∨ k = 4 ∨ k = 5 ∨ k = 6 := by omega
   rcases hk with rfl | rfl | rfl | rfl | rfl | rfl
   ·obtain rfl : l = [] := List.eq_nil_of_length_eq_zero hl
    rw [hbb (by decide), hn (by decide)]
    exact .has (h12 (.inl rfl))
   ·obtain rfl : l = [] := List.eq_nil_of_length_eq_zero hl
    rw [hn (by decide)]
    exact .is (h12 (.inr rfl)) (h2 rfl)
   ·obtain rfl : l = [] := List.eq_nil_of_length_eq_zero hl
    rw [hbb (by decide)]
    exact .more (h3 rfl) n0 n1
   ·match l, hl with
    | [y], _ =>
     rw [ha (by decide), hbb (by decide), hn (by decide)]
     exact .not (ih y (hsz y (by simp)) (hsub y (by simp) he))
   ·match l, hl with
    | [x, y], _ =>
     rw [ha (by decide), hbb (by decide), hn (by decide)]
     exact .and (ih x (hsz x (by simp)) (hsub x (by simp) he)) (ih y (hsz y (by simp)) (hsub y (by simp) he))
   ·match l, hl with
    | [x, y], _ =>
     rw [ha (by decide), hbb (by decide), hn (by decide)]
     exact .or (ih x (hsz x (by simp)) (hsub x (by simp) he)) (ih y (hsz y (by simp)) (hsub y (by simp) he))
theorem askP_text {x : Ask} (hx : Good x) : ∀ (N left : Nat) (s : Bs), x.size ≤ N → x.size ≤ left → Stop s → askP N left (txt x ++ s) = some (x, s, left - x.size) := by
 induction hx with
 | @has a h =>
  intro N left s hN hl hs
  have e1 : txt (.mk 1 a [] 0 []) = 63 :: a := by simp [txt]
  have e2 : (Ask.mk 1 a [] 0 []).size = 1 := by simp [Ask.size, Ask.sizes]
  rw [e2] at hN hl ⊢
  cases N with
  | zero => omega
  | succ N =>
   obtain ⟨h1, h2⟩ := word_stop (lab_sgn h) hs
   rw [e1, List.cons_append, askP, if_neg (by omega)]
   simp only [h1, h2]
 | @is a b h h2 =>
  intro N left s hN hl hs
  have e1 : txt (.mk 2 a b 0 []) = a ++ 61 :: b := by simp [txt]
  have e2 : (Ask.mk 2 a b 0 []).size = 1 := by simp [Ask.size, Ask.sizes]
  rw [e2] at hN hl ⊢
  cases N with
  | zero => omega
  | succ N =>
   obtain ⟨h3, h4⟩ := word_stop (lab_sgn h) (stop61 (b ++ s))
   obtain ⟨h5, h6⟩ := word_stop (lab_sgn h2) hs
   rw [e1, List.append_assoc, List.cons_append, askP_word (by omega) (first_of (lab_ne h) (lab_sgn h)), h4]
   simp only [h3, h5, h6]
 | @more a n h h0 h1 =>
  intro N left s hN hl hs
  have e1 : txt (.mk 3 a [] n []) = a ++ 62 :: 61 :: dec n.toNat := by simp [txt]
  have e2 : (Ask.mk 3 a [] n []).size = 1 := by simp [Ask.size, Ask.sizes]
  rw [e2] at hN hl ⊢
  cases N with
  | zero => omega
  | succ N =>
   obtain ⟨h3, h4⟩ := word_stop (unit_sgn h) (stop62 (61 :: (dec n.toNat ++ s)))
   obtain ⟨h5, h6⟩ := word_stop (dec_sgn n.toNat) hs
   rw [e1, List.append_assoc, List.cons_append, List.cons_append, askP_word (by omega) (first_of (unit_ne h) (unit_sgn h)), h4]
   simp only [h3, h5, h6, parse_dec (show n.toNat < 9223372036854775808 from by omega)]
   rw [Int.toNat_of_nonneg h0]
 | @not y hy ih =>
  intro N left s hN hl hs
  have e2 : (Ask.mk 4 [] [] 0 [y]).size = 1 + y.size := by simp [Ask.size, Ask.sizes]
  rw [e2] at hN hl ⊢
  cases N with
  | zero => omega
  | succ N =>
   rw [txt4, List.cons_append, askP, if_neg (by omega)]
   simp only [ih N (left - 1) s (by omega) (by omega) hs]
   rw [show left - 1 - y.size = left - (1 + y.size) from by omega]
 | @and x y hx hy ihx ihy =>
  intro N left s hN hl hs
  have e2 : (Ask.mk 5 [] [] 0 [x, y]).size = 1 + (x.size + y.size) := by simp [Ask.size, Ask.sizes]
  rw [e2] at hN hl ⊢
  cases N with
  | zero => omega
  | succ N =>
   have e3 : 40 :: (txt x ++ 38 :: (txt y ++ [41])) ++ s = 40 :: (txt x ++ 38 :: (txt y ++ 41 :: s)) := by simp
   rw [txt5, e3, askP, if_neg (by omega)]
   simp only [ihx N (left - 1) _ (by omega) (by omega) (stop38 _), ihy N (left - 1 - x.size) _ (by omega) (by omega) (stop41 s)]
   rw [show left - 1 - x.size - y.size = left - (1 + (x.size + y.size)) from by omega]
 | @or x y hx hy ihx ihy =>
  intro N left s hN hl hs
  have e2 : (Ask.mk 6 [] [] 0 [x, y]).size = 1 + (x.size + y.size) := by simp [Ask.size, Ask.sizes]
  rw [e2] at hN hl ⊢
  cases N with
  | zero => omega
  | succ N =>
   have e3 : 40 :: (txt x ++ 124 :: (txt y ++ [41])) ++ s = 40 :: (txt x ++ 124 :: (txt y ++ 41 :: s)) := by simp
   rw [txt6, e3, askP, if_neg (by omega)]
   simp only [ihx N (left - 1) _ (by omega) (by omega) (stop124 _), ihy N (left - 1 - x.size) _ (by omega) (by omega) (stop41 s)]
   rw [show left - 1 - x.size - y.size = left - (1 + (x.size + y.size)) from by omega]
theorem askR_text {x : Ask} (hx : Good x) : ∀ (deep : Nat) (s : Bs), x.size ≤ deep → Stop s → askR deep (txt x ++ s) = some (x, s) := by
 induction hx with
 | @has a h =>
  intro N s hN hs
  have e1 : txt (.mk 1 a [] 0 []) = 63 :: a := by simp [txt]
  have e2 : (Ask.mk 1 a [] 0 []).size = 1 := by simp [Ask.size, Ask.sizes]
  rw [e2] at hN
  cases N with
  | zero => omega
  | succ N =>
   obtain ⟨h1, h2⟩ := word_stop (lab_sgn h) hs
   rw [e1, List.cons_append, askR]
   simp only [h1, h2]
 | @is a b h h2 =>
  intro N s hN hs
  have e1 : txt (.mk 2 a b 0 []) = a ++ 61 :: b := by simp [txt]
  have e2 : (Ask.mk 2 a b 0 []).size = 1 := by simp [Ask.size, Ask.sizes]
  rw [e2] at hN
  cases N with
  | zero => omega
  | succ N =>
   obtain ⟨h3, h4⟩ := word_stop (lab_sgn h) (stop61 (b ++ s))
   obtain ⟨h5, h6⟩ := word_stop (lab_sgn h2) hs
   rw [e1, List.append_assoc, List.cons_append, askR_word (by simp) (first_of (lab_ne h) (lab_sgn h)), h4]
   simp only [h3, h5, h6]
 | @more a n h h0 h1 =>
  intro N s hN hs
  have e1 : txt (.mk 3 a [] n []) = a ++ 62 :: 61 :: dec n.toNat := by simp [txt]
  have e2 : (Ask.mk 3 a [] n []).size = 1 := by simp [Ask.size, Ask.sizes]
  rw [e2] at hN
  cases N with
  | zero => omega
  | succ N =>
   obtain ⟨h3, h4⟩ := word_stop (unit_sgn h) (stop62 (61 :: (dec n.toNat ++ s)))
   obtain ⟨h5, h6⟩ := word_stop (dec_sgn n.toNat) hs
   rw [e1, List.append_assoc, List.cons_append, List.cons_append, askR_word (by simp) (first_of (unit_ne h) (unit_sgn h)), h4]
   simp only [h3, h5, h6, intOf_dec (show n.toNat < 9223372036854775808 from by omega)]
   rw [Int.toNat_of_nonneg h0]
 | @not y hy ih =>
  intro N s hN hs
  have e2 : (Ask.mk 4 [] [] 0 [y]).size = 1 + y.size := by simp [Ask.size, Ask.sizes]
  rw [e2] at hN
  cases N with
  | zero => omega
  | succ N =>
   rw [txt4, List.cons_append, askR]
   simp only [ih N s (by omega) hs]
 | @and x y hx hy ihx ihy =>
  intro N s hN hs
  have e2 : (Ask.mk 5 [] [] 0 [x, y]).size = 1 + (x.size + y.size) := by simp [Ask.size, Ask.sizes]
  rw [e2] at hN
  cases N with
  | zero => omega
  | succ N =>
   have e3 : 40 :: (txt x ++ 38 :: (txt y ++ [41])) ++ s = 40 :: (txt x ++ 38 :: (txt y ++ 41 :: s)) := by simp
   rw [txt5, e3, askR]
   simp only [ihx N _ (by omega) (stop38 _), ihy N _ (by omega) (stop41 s)]
 | @or x y hx hy ihx ihy =>
  intro N s hN hs
  have e2 : (Ask.mk 6 [] [] 0 [x, y]).size = 1 + (x.size + y.size) := by simp [Ask.size, Ask.sizes]
  rw [e2] at hN
  cases N with
  | zero => omega
  | succ N =>
   have e3 : 40 :: (txt x ++ 124 :: (txt y ++ [41])) ++ s = 40 :: (txt x ++ 124 :: (txt y ++ 41 :: s)) := by simp
   rw [txt6, e3, askR]
   simp only [ihx N _ (by omega) (stop124 _), ihy N _ (by omega) (stop41 s)]
def own (r : Option Ask) (s : Bs) : Option Ask := match r with | none => none | some x => if x.fault = 0 ∧ txt x = s then some x else none
def readP (s : Bs) : Option Ask := (askP 60 60 s).map (·.1)
def readR (s : Bs) : Option Ask := match askR 61 s with | some (x, []) => some x | _ => none
theorem fault_good {x : Ask} (h : x.fault = 0) : Good x ∧ x.size ≤ 60 := by
 unfold Ask.fault at h
 split at h
 ·cases h
 ·exact ⟨good_of x.size x lr h, by omega⟩
theorem readP_text {x : Ask} (h : x.fault = 0) : readP (txt x) = some x := by
 obtain ⟨h1, h2⟩ := fault_good h
 have := askP_text h1 60 60 [] h2 h2 (.inl rfl)
 rw [List.append_nil] at this
 unfold readP
 rw [this]
 rfl
theorem readR_text {x : Ask} (h : x.fault = 0) : readR (txt x) = some x := by
 obtain ⟨h1, h2⟩ := fault_good h
 have := askR_text h1 61 [] (by omega) (.inl rfl)
 rw [List.append_nil] at this
 unfold readR
 rw [this]
theorem own_same (s : Bs) : own (readP s) s = own (readR s) s := by
 have key : ∀ {r r' : Option Ask}, (∀ x, x.fault = 0 → txt x = s → r' = some x) → ∀ x, own r s = some x → own r' s = some x := by
  intro r r' h2 x hx
  unfold own at hx
  split at hx
  ·cases hx
  ·rename_i y
   split at hx
   ·rename_i ht
    injection hx with hx
    subst hx
    rw [h2 y ht.1 ht.2]
    unfold own
    simp only
    rw [if_pos ht]
   ·cases hx
 have hPR := @key (readP s) (readR s) (fun x h ht => by rw [← ht]; exact readR_text h)
 have hRP := @key (readR s) (readP s) (fun x h ht => by rw [← ht]; exact readP_text h)
 cases h : own (readP s) s with
 | some v => exact (hPR v h).symm
 | none =>
  cases h' : own (readR s) s with
  | none => rfl
  | some v => rw [hRP v h'] at h; cases h
end Go.Proofs.YtkemlckmfgacdaaGreatDoor.Ar
namespace Go.Proofs.YtkemlckmfgacdaaGreatDoor
set_option maxRecDepth 20000
set_option maxHeartbeats 64000000
open Go.ChangeShapes Go.WideShapes Go.ChangeAt Go.RowKit
set_option linter.unusedVariables false
open Tp
theorem count_all : ∀ (N : Nat) (x : Ask) (v : Value) (w : World), x.size ≤ N → x.size ≤ 1000000000 → AskV w x v → Calls Tryz.prog 73 #[v] w fun e w' => e = .returned (.int .i64 (x.size : Int)) ∧ Below w.heap.size w w' := by
 intro N
 induction N with
 | zero => intro x v w h; have := Ask.one_le x; omega
 | succ N ih =>
  intro x v w hN hbig hv
  cases x with
  | mk k ka va nu l =>
  rw [AskV] at hv
  obtain ⟨ad, n, cap, rfl, hn, hcap, hmax, _, _, hrow⟩ := hv
  have HIH := hid ih
  have HR := hid hrow
  have HN := hid hn
  rw [Ask.size] at hN hbig
  obtain ⟨z, hz⟩ : ∃ z, Ask.sizes l = z := ⟨_, rfl⟩
  have HZ := hid hz
  have HSZ : Hid ((Ask.mk k ka va nu l).size = 1 + z) := hid (by rw [Ask.size, hz])
  rw [hz] at hN hbig
  obtain ⟨a1, ha1⟩ : ∃ a, bts ka = a := ⟨_, rfl⟩
  obtain ⟨a2, ha2⟩ : ∃ a, bts va = a := ⟨_, rfl⟩
  rw [ha1, ha2]
  rw [HSZ.out]
  clear ih hrow hn hz ha1 ha2
  go_enter Tryz.func73, Tryz.ntmps73
  go_wp2_with fail
  go_loopg [3, 9] n (fun g x y wr => ∃ (j : Nat) (q : Nat), j + g = n ∧ y = .int .i64 (j : Int) ∧ x = .int .i64 (q : Int) ∧ Hid (q = 1 + Ask.sizes (l.take j)) ∧ q ≤ 1000000000 ∧ Hid (Below w.heap.size w wr))
  case atStart => exact ⟨0, 1, by omega, rfl, rfl, hid (by simp [Ask.sizes]), by omega, hid ((Below.refl _ _).alloc lr _)⟩
  case round =>
   obtain ⟨j, q, hj, rfl, rfl, HQ, hq, HB⟩ := hrel
   by_cases hjn : j < n
   ·obtain ⟨y, hy⟩ : ∃ y, l[j]? = some y := ⟨_, List.getElem?_eq_getElem (by rw [← HN.out]; exact hjn)⟩
    obtain ⟨b, off, rfl, hb, hat⟩ := HR.out (by omega)
    obtain ⟨ad', len', cap', c0, c1, c2, c3, c4, hyv⟩ := (AsksV.below HB.out l b off hb hat).get hy
    have hbr : b < wr.heap.size := Nat.lt_of_lt_of_le hb HB.out.size
    have hj1 : (0 : Int) ≤ (j : Int) := by omega
    have hj2 : (j : Int) < (n : Int) := by omega
    obtain ⟨s, hs⟩ : ∃ s, y.size = s := ⟨_, rfl⟩
    have hs1 := Ask.sizes_at hy
    have hs2 : q + s ≤ 1 + z := by
     have := Ask.sizes_take hy
     have h3 := Ask.sizes_take_le l (j + 1)
     have := HQ.out
     have := HZ.out
     omega
    have HS : Hid (q + s = 1 + Ask.sizes (l.take (j + 1))) := hid (by
     have := Ask.sizes_take hy
     have := HQ.out
     omega)
    obtain ⟨k1, hk1⟩ : ∃ a, bts y.key = a := ⟨_, rfl⟩
    obtain ⟨k2, hk2⟩ : ∃ a, bts y.val = a := ⟨_, rfl⟩
    obtain ⟨k0, hk0⟩ : ∃ a, y.kind = a := ⟨_, rfl⟩
    obtain ⟨k3, hk3⟩ : ∃ a, y.num = a := ⟨_, rfl⟩
    rw [hk0] at c0 hyv
    rw [hk1] at c1 hyv
    rw [hk2] at c2 hyv
    rw [hk3] at c3 hyv
    obtain ⟨wx, hwx⟩ : ∃ wx, wx = wr.alloc (.cells #[.int .i64 k0, .string k1, .string k2, .int .i64 k3, .slice ad' len' cap'] 26) := ⟨_, rfl⟩
    have hb9 : Below wr.heap.size wr wx := be0 hwx
    have HBX : Hid (Below w.heap.size w wx) := hid (HB.out.trans (hb9.mono HB.out.size))
    have HC := hid (HIH.out y _ wx (by have := HZ.out; omega) (by have := HZ.out; omega) (AskV.below hb9 _ _ hyv))
    rw [hs] at HC
    have hw : IntKind.i64.wrap ((q : Int) + (s : Int)) = ((q + s : Nat) : Int) := by rw [IntWalk.i64_in _ (by omega)]; omega
    clear hat hy hyv hs hk0 hk1 hk2 hk3 hb9
    go_wp2_with fail
    rw [← hwx]
    refine Calls.mono HC.out ?_
    rintro e' W3 ⟨rfl, h1⟩
    have HB3 := hid (HBX.out.trans (h1.mono HBX.out.size))
    clear h1
    go_wp2_with fail
    go_roundg (n - (j + 1))
    case measure => omega
    case rel => exact ⟨j + 1, q + s, by omega, by simp, by simp, HS, by omega, HB3⟩
   ·obtain rfl : j = n := by omega
    have HQ2 : Hid ((q : Int) = ((1 + z : Nat) : Int)) := hid (by
     have := HQ.out
     rw [HN.out, List.take_length, HZ.out] at this
     omega)
    go_wp2_with fail
    go_ret
    exact ⟨ret_int HQ2.out, HB.out⟩
theorem askSize_all : ∀ (N : Nat) (x : Ask) (v : Value) (w : World), x.size ≤ N → x.size ≤ 1000000000 → AskV w x v → Calls Tryz.prog 71 #[v] w fun e w' => e = .returned (.int .i64 (x.size : Int)) ∧ Below w.heap.size w w' := by
 intro N
 induction N with
 | zero => intro x v w h; have := Ask.one_le x; omega
 | succ N ih =>
  intro x v w hN hbig hv
  cases x with
  | mk k ka va nu l =>
  rw [AskV] at hv
  obtain ⟨ad, n, cap, rfl, hn, hcap, hmax, _, _, hrow⟩ := hv
  have HIH := hid ih
  have HR := hid hrow
  have HN := hid hn
  rw [Ask.size] at hN hbig
  obtain ⟨z, hz⟩ : ∃ z, Ask.sizes l = z := ⟨_, rfl⟩
  have HZ := hid hz
  have HSZ : Hid ((Ask.mk k ka va nu l).size = 1 + z) := hid (by rw [Ask.size, hz])
  rw [hz] at hN hbig
  obtain ⟨a1, ha1⟩ : ∃ a, bts ka = a := ⟨_, rfl⟩
  obtain ⟨a2, ha2⟩ : ∃ a, bts va = a := ⟨_, rfl⟩
  rw [ha1, ha2]
  rw [HSZ.out]
  clear ih hrow hn hz ha1 ha2
  go_enter Tryz.func71, Tryz.ntmps71
  go_wp2_with fail
  go_loopg [3, 9] n (fun g x y wr => ∃ (j : Nat) (q : Nat), j + g = n ∧ y = .int .i64 (j : Int) ∧ x = .int .i64 (q : Int) ∧ Hid (q = 1 + Ask.sizes (l.take j)) ∧ q ≤ 1000000000 ∧ Hid (Below w.heap.size w wr))
  case atStart => exact ⟨0, 1, by omega, rfl, rfl, hid (by simp [Ask.sizes]), by omega, hid ((Below.refl _ _).alloc lr _)⟩
  case round =>
   obtain ⟨j, q, hj, rfl, rfl, HQ, hq, HB⟩ := hrel
   by_cases hjn : j < n
   ·obtain ⟨y, hy⟩ : ∃ y, l[j]? = some y := ⟨_, List.getElem?_eq_getElem (by rw [← HN.out]; exact hjn)⟩
    obtain ⟨b, off, rfl, hb, hat⟩ := HR.out (by omega)
    obtain ⟨ad', len', cap', c0, c1, c2, c3, c4, hyv⟩ := (AsksV.below HB.out l b off hb hat).get hy
    have hbr : b < wr.heap.size := Nat.lt_of_lt_of_le hb HB.out.size
    have hj1 : (0 : Int) ≤ (j : Int) := by omega
    have hj2 : (j : Int) < (n : Int) := by omega
    obtain ⟨s, hs⟩ : ∃ s, y.size = s := ⟨_, rfl⟩
    have hs1 := Ask.sizes_at hy
    have hs2 : q + s ≤ 1 + z := by
     have := Ask.sizes_take hy
     have h3 := Ask.sizes_take_le l (j + 1)
     have := HQ.out
     have := HZ.out
     omega
    have HS : Hid (q + s = 1 + Ask.sizes (l.take (j + 1))) := hid (by
     have := Ask.sizes_take hy
     have := HQ.out
     omega)
    obtain ⟨k1, hk1⟩ : ∃ a, bts y.key = a := ⟨_, rfl⟩
    obtain ⟨k2, hk2⟩ : ∃ a, bts y.val = a := ⟨_, rfl⟩
    obtain ⟨k0, hk0⟩ : ∃ a, y.kind = a := ⟨_, rfl⟩
    obtain ⟨k3, hk3⟩ : ∃ a, y.num = a := ⟨_, rfl⟩
    rw [hk0] at c0 hyv
    rw [hk1] at c1 hyv
    rw [hk2] at c2 hyv
    rw [hk3] at c3 hyv
    obtain ⟨wx, hwx⟩ : ∃ wx, wx = wr.alloc (.cells #[.int .i64 k0, .string k1, .string k2, .int .i64 k3, .slice ad' len' cap'] 26) := ⟨_, rfl⟩
    have hb9 : Below wr.heap.size wr wx := be0 hwx
    have HBX : Hid (Below w.heap.size w wx) := hid (HB.out.trans (hb9.mono HB.out.size))
    have HC := hid (HIH.out y _ wx (by have := HZ.out; omega) (by have := HZ.out; omega) (AskV.below hb9 _ _ hyv))
    rw [hs] at HC
    have hw : IntKind.i64.wrap ((q : Int) + (s : Int)) = ((q + s : Nat) : Int) := by rw [IntWalk.i64_in _ (by omega)]; omega
    clear hat hy hyv hs hk0 hk1 hk2 hk3 hb9
    go_wp2_with fail
    rw [← hwx]
    refine Calls.mono HC.out ?_
    rintro e' W3 ⟨rfl, h1⟩
    have HB3 := hid (HBX.out.trans (h1.mono HBX.out.size))
    clear h1
    go_wp2_with fail
    go_roundg (n - (j + 1))
    case measure => omega
    case rel => exact ⟨j + 1, q + s, by omega, by simp, by simp, HS, by omega, HB3⟩
   ·obtain rfl : j = n := by omega
    have HQ2 : Hid ((q : Int) = ((1 + z : Nat) : Int)) := hid (by
     have := HQ.out
     rw [HN.out, List.take_length, HZ.out] at this
     omega)
    go_wp2_with fail
    go_ret
    exact ⟨ret_int HQ2.out, HB.out⟩
theorem count_any (x : Ask) (v : Value) (w : World) (hs : x.size ≤ 1000000000) (hv : AskV w x v) : Calls Tryz.prog 73 #[v] w fun e w' => e = .returned (.int .i64 (x.size : Int)) ∧ Below w.heap.size w w' := count_all x.size x v w lr hs hv
theorem askSize_any (x : Ask) (v : Value) (w : World) (hs : x.size ≤ 1000000000) (hv : AskV w x v) : Calls Tryz.prog 71 #[v] w fun e w' => e = .returned (.int .i64 (x.size : Int)) ∧ Below w.heap.size w w' := askSize_all x.size x v w lr hs hv
end Go.Proofs.YtkemlckmfgacdaaGreatDoor
