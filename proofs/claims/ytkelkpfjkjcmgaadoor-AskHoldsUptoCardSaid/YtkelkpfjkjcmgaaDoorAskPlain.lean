/- Plain: two asks hold at once by all numbers' bits, and by all ways in which the atoms may be: it is one. -/
import Derived.Test.YtkelkpfjkjcmgaaDoorAskAlike
import Derived.Test.YtkelkpfjkjcmgaaDoorAskABy
namespace Go.Proofs.YtkelkpfjkjcmgaaDoor
open Go.ChangeShapes Go.WideShapes Go.ChangeAt Go.RowKit
set_option linter.unusedVariables false
open Tp
mutual
theorem ev_congr {f g : Ask → Bool} {K : List Bs} (h : ∀ z : Ask, z.kind ≤ 3 → z.txt ∈ K → f z = g z) : ∀ x : Ask, x.err = 0 → InK K x → x.ev f = x.ev g
  | .mk k a b n l, he, hK => by
    obtain ⟨hb0, hes⟩ := Ask.err_zero he
    obtain ⟨hk1, hk6, _⟩ := Ask.bad_zero hb0
    by_cases h3 : k ≤ 3
    · rw [Ask.ev, Ask.ev, if_neg (by omega), if_neg (by omega), if_neg (by omega), if_neg (by omega), if_neg (by omega), if_neg (by omega)]
      exact h _ h3 (InK.atom hK h3)
    · have hl := evs_congr h l hes (fun t ht => hK t (by rw [Ask.leaves, if_neg h3]; exact ht))
      rw [Ask.ev, Ask.ev, hl]
      by_cases h4 : k = 4
      · rw [if_pos h4, if_pos h4]
      by_cases h5 : k = 5
      · rw [if_neg h4, if_neg h4, if_pos h5, if_pos h5]
      · have h6 : k = 6 := by omega
        rw [if_neg h4, if_neg h4, if_neg h5, if_neg h5, if_pos h6, if_pos h6]
theorem evs_congr {f g : Ask → Bool} {K : List Bs} (h : ∀ z : Ask, z.kind ≤ 3 → z.txt ∈ K → f z = g z) : ∀ l : List Ask, Ask.errs l = 0 → (∀ t, t ∈ Ask.leavess l → t ∈ K) → Ask.evs f l = Ask.evs g l
  | [], _, _ => rfl
  | x :: l, he, hK => by
    rw [Ask.errs] at he
    split at he
    · rename_i h2; exact absurd he h2
    · rename_i h2
      rw [Ask.evs, Ask.evs, ev_congr h x (Decidable.byContradiction h2) (fun t ht => hK t (by rw [Ask.leavess]; exact List.mem_append.2 (.inl ht))), evs_congr h l he (fun t ht => hK t (by rw [Ask.leavess]; exact List.mem_append.2 (.inr ht)))]
end
def bitsOf : Nat → Nat → List Bool
  | _, 0 => []
  | s, n + 1 => decide (s % 2 = 1) :: bitsOf (s / 2) n
theorem bitsOf_len (s n : Nat) : (bitsOf s n).length = n := by
  induction n generalizing s with
  | zero => rfl
  | succ n ih => rw [bitsOf, List.length_cons, ih]
theorem bitsOf_at {s n i : Nat} (h : i < n) : (bitsOf s n)[i]? = some (decide (s / 2 ^ i % 2 = 1)) := by
  induction n generalizing s i with
  | zero => omega
  | succ n ih =>
    rw [bitsOf]
    cases i with
    | zero => simp
    | succ i =>
      rw [List.getElem?_cons_succ, ih (by omega), Nat.div_div_eq_div_mul, ← Nat.pow_succ']
theorem bitsOf_all : ∀ c : List Bool, ∃ s, s < 2 ^ c.length ∧ bitsOf s c.length = c
  | [] => ⟨0, by decide, rfl⟩
  | b :: c => by
    obtain ⟨s, h1, h2⟩ := bitsOf_all c
    cases b with
    | false => exact ⟨2 * s, by rw [List.length_cons, Nat.pow_succ]; omega, by rw [List.length_cons, bitsOf, show 2 * s / 2 = s by omega, h2, show decide (2 * s % 2 = 1) = false from by simp]⟩
    | true => exact ⟨2 * s + 1, by rw [List.length_cons, Nat.pow_succ]; omega, by rw [List.length_cons, bitsOf, show (2 * s + 1) / 2 = s by omega, h2, show decide ((2 * s + 1) % 2 = 1) = true from by simp]⟩
/-- those of a row that are chosen -/
def sel : List Bs → List Bool → List Bs
  | [], _ => []
  | _, [] => []
  | t :: L, b :: c => if b then t :: sel L c else sel L c
theorem sel_sub {L : List Bs} {c : List Bool} {t : Bs} (h : t ∈ sel L c) : t ∈ L := by
  induction L generalizing c with
  | nil => simp [sel] at h
  | cons s L ih =>
    cases c with
    | nil => simp [sel] at h
    | cons b c =>
      rw [sel] at h
      split at h
      · rcases List.mem_cons.1 h with h | h
        · exact List.mem_cons.2 (.inl h)
        · exact List.mem_cons.2 (.inr (ih h))
      · exact List.mem_cons.2 (.inr (ih h))
theorem mem_sel {L : List Bs} (hn : L.Nodup) {c : List Bool} (hc : c.length = L.length) {t : Bs} (ht : t ∈ L) : t ∈ sel L c ↔ c[L.idxOf t]? = some true := by
  induction L generalizing c with
  | nil => cases ht
  | cons s L ih =>
    cases c with
    | nil => simp at hc
    | cons b c =>
      obtain ⟨h1, h2⟩ := List.nodup_cons.1 hn
      rw [sel, List.idxOf_cons]
      by_cases e : s = t
      · subst e
        rw [show (s == s) = true from by simp]
        simp only [cond_true, List.getElem?_cons_zero, Option.some.injEq]
        cases b with
        | true => simp
        | false => simp only [Bool.false_eq_true, if_false, iff_false]; exact fun h => h1 (sel_sub h)
      · rw [show (s == t) = false from by simpa using e]
        have htL : t ∈ L := by rcases List.mem_cons.1 ht with h | h; exact absurd h.symm e; exact h
        simp only [cond_false, List.getElem?_cons_succ]
        rw [← ih h2 (by simpa using hc) htL]
        cases b with
        | true => simp only [if_true, List.mem_cons]; exact ⟨fun h => h.resolve_left (fun h => e h.symm), .inr⟩
        | false => simp
theorem alikeR_iff (x y : Ask) (L R : List Bs) : alikeR x y L R = true ↔ ∀ c : List Bool, c.length = L.length → x.ev (inR (R ++ sel L c)) = y.ev (inR (R ++ sel L c)) := by
  induction L generalizing R with
  | nil =>
    rw [alikeR, beq_iff_eq]
    constructor
    · intro h c hc
      rw [show sel [] c = [] from by cases c <;> rfl, List.append_nil]; exact h
    · intro h
      have := h [] rfl
      rwa [show sel [] [] = [] from rfl, List.append_nil] at this
  | cons t L ih =>
    rw [alikeR, Bool.and_eq_true, ih, ih]
    constructor
    · rintro ⟨h1, h2⟩ c hc
      cases c with
      | nil => simp at hc
      | cons b c =>
        have hc' : c.length = L.length := by simpa using hc
        rw [sel]
        cases b with
        | false => exact h1 c hc'
        | true =>
          have := h2 c hc'
          rwa [List.append_assoc] at this
    · intro h
      refine ⟨fun c hc => ?_, fun c hc => ?_⟩
      · have := h (false :: c) (by simp [hc])
        rwa [sel] at this
      · have := h (true :: c) (by simp [hc])
        rw [sel, if_pos rfl] at this
        rwa [List.append_assoc]
theorem addT_nodup {K : List Bs} {t : Bs} (h : K.Nodup) : (addT K t).Nodup := by
  unfold addT
  split
  · exact h
  · rename_i h2
    rw [List.nodup_append]
    exact ⟨h, by simp, fun a ha b hb e => by simp at hb; subst hb; subst e; exact h2 ha⟩
theorem addL_nodup {K ts : List Bs} (h : K.Nodup) : (addL K ts).Nodup := by
  induction ts generalizing K with
  | nil => exact h
  | cons t ts ih =>
    show (addL (addT K t) ts).Nodup
    exact ih (addT_nodup h)
theorem evBit_sel {K : List Bs} (hn : K.Nodup) (s : Nat) (x : Ask) (he : x.err = 0) (hK : InK K x) : evBit s K x = x.ev (inR ([] ++ sel K (bitsOf s K.length))) := by
  refine ev_congr (K := K) (fun z _ hz => ?_) x he hK
  have hi : K.idxOf z.txt < K.length := List.idxOf_lt_length_iff.2 hz
  have h1 := mem_sel hn (bitsOf_len s K.length) hz
  rw [bitsOf_at hi] at h1
  unfold bitOf inR
  rw [List.nil_append, Bool.eq_iff_iff, decide_eq_true_eq, decide_eq_true_eq, h1]
  simp
theorem alike_same (x y : Ask) (hx : x.err = 0) (hy : y.err = 0) : decide (∀ s, s < 2 ^ (allAt x y).length → evBit s (allAt x y) x = evBit s (allAt x y) y) = alikeR x y (allAt x y) [] := by
  have hn : (allAt x y).Nodup := addL_nodup (addL_nodup List.nodup_nil)
  have hkx : InK (allAt x y) x := fun t ht => mem_addL (mem_addL_in ht)
  have hky : InK (allAt x y) y := fun t ht => mem_addL_in ht
  rw [Bool.eq_iff_iff, decide_eq_true_eq, alikeR_iff]
  constructor
  · intro h c hc
    obtain ⟨s, h1, h2⟩ := bitsOf_all c
    rw [hc] at h1 h2
    have := h s h1
    rwa [evBit_sel hn s x hx hkx, evBit_sel hn s y hy hky, h2] at this
  · intro h s _
    rw [evBit_sel hn s x hx hkx, evBit_sel hn s y hy hky]
    exact h _ (bitsOf_len _ _)
theorem alikeB_zero {x y : Ask} (hx : x.err = 0) (hy : y.err = 0) (h : alikeE x y = 0) : alikeB x y = alikeR x y (allAt x y) [] := by
  unfold alikeB
  rw [alike_same x y hx hy, h]
  rfl
end Go.Proofs.YtkelkpfjkjcmgaaDoor
