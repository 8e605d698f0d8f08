/- Plain facts: the row of work of the earliest due first, over a list of tasks; it is the plain theorem's. -/
import Derived.Test.YtdbipmidjdhjpaaDueMath
import Derived.Test.YtdbipmidjdhjpaaDueTight
namespace Go.Proofs.Ytdbipmidjdhjpaa
set_option linter.unusedVariables false
abbrev Tk := List (Int × Int × Int)
def tk (L : Tk) (i : Nat) : Int × Int × Int := L.getD i (0, 0, 0)
def tA (L : Tk) (i : Nat) : Int := (tk L i).1
def tD (L : Tk) (i : Nat) : Int := (tk L i).2.1
def tN (L : Tk) (i : Nat) : Int := (tk L i).2.2
/-- of the first k tasks the one to be worked on, when a row has been worked; -1: none -/
def bestI (L : Tk) (R : List Int) (now : Nat) : Nat → Int
  | 0 => -1
  | k + 1 => if tA L k ≤ now ∧ (R.count (k : Int) : Int) < tN L k ∧ (bestI L R now k < 0 ∨ tD L k < tD L (bestI L R now k).toNat) then k else bestI L R now k
def rowI (L : Tk) : Nat → List Int
  | 0 => []
  | t + 1 => rowI L t ++ [bestI L (rowI L t) t L.length]
def lateB (L : Tk) (i : Nat) : Bool := decide (((((rowI L 200).take (tD L i).toNat).count (i : Int) : Nat) : Int) < tN L i)
def lateI (L : Tk) : Nat → List Int
  | 0 => []
  | k + 1 => if lateB L k then lateI L k ++ [(k : Int)] else lateI L k
theorem tk_at {L : Tk} {i : Nat} {a d n : Int} (h : L[i]? = some (a, d, n)) : tA L i = a ∧ tD L i = d ∧ tN L i = n := by
  simp [tA, tD, tN, tk, List.getD, h]
theorem rowI_length (L : Tk) : ∀ t, (rowI L t).length = t
  | 0 => rfl
  | t + 1 => by simp [rowI, rowI_length L t]
theorem rowI_take (L : Tk) (s : Nat) : ∀ t, s ≤ t → (rowI L t).take s = rowI L s
  | 0, h => by have : s = 0 := by omega
               subst this; rfl
  | t + 1, h => by
    by_cases e : s = t + 1
    · subst e; rw [List.take_of_length_le (by rw [rowI_length]; omega)]
    · rw [rowI, List.take_append_of_le_length (by rw [rowI_length]; omega), rowI_take L s t (by omega)]
theorem rowI_take_ge (L : Tk) (s t : Nat) (h : t ≤ s) : (rowI L t).take s = rowI L t := List.take_of_length_le (by rw [rowI_length]; omega)
theorem bestI_range (L : Tk) (R : List Int) (now : Nat) : ∀ k, -1 ≤ bestI L R now k ∧ bestI L R now k < k
  | 0 => by simp [bestI]
  | k + 1 => by
    have := bestI_range L R now k
    unfold bestI
    split <;> omega
theorem bestI_ok (L : Tk) (R : List Int) (now : Nat) : ∀ k (i : Nat), bestI L R now k = i → tA L i ≤ now ∧ (R.count (i : Int) : Int) < tN L i
  | 0, i, h => by simp only [bestI] at h; omega
  | k + 1, i, h => by
    unfold bestI at h
    split at h
    · rename_i hh
      have : k = i := by omega
      subst this
      exact ⟨hh.1, hh.2.1⟩
    · exact bestI_ok L R now k i h
theorem rowI_at (L : Tk) {t s : Nat} (h : s < t) : (rowI L t)[s]? = some (bestI L (rowI L s) s L.length) := by
  have h1 : (rowI L t)[s]? = ((rowI L t).take (s + 1))[s]? := by rw [List.getElem?_take, if_pos (by omega)]
  rw [h1, rowI_take L (s + 1) t (by omega), rowI, List.getElem?_append_right (by rw [rowI_length]; omega), rowI_length]
  simp
theorem count_succ (L : Tk) (t : Nat) (i : Int) : (rowI L (t + 1)).count i = (rowI L t).count i + if bestI L (rowI L t) t L.length = i then 1 else 0 := by
  rw [rowI, List.count_append]
  simp [List.count_cons]
theorem count_le_len (L : Tk) (hL : ∀ i, 0 ≤ tN L i) (i : Nat) : ∀ t, ((rowI L t).count (i : Int) : Int) ≤ tN L i
  | 0 => by simp [rowI]; exact hL i
  | t + 1 => by
    have ih := count_le_len L hL i t
    rw [count_succ]
    split
    · rename_i h
      have := (bestI_ok L _ _ _ _ h).2
      omega
    · omega
/-- worked on too late? -/
def badB (L : Tk) (t i : Nat) : Bool := decide (((rowI L t).take (tD L i).toNat).count (i : Int) < (rowI L t).count (i : Int))
theorem badB_zero (L : Tk) (i : Nat) : badB L 0 i = false := by simp [badB, rowI]
theorem badB_succ (L : Tk) (t i : Nat) (hd : 0 ≤ tD L i) : badB L (t + 1) i = (badB L t i || (decide (bestI L (rowI L t) t L.length = i) && decide (tD L i ≤ t))) := by
  unfold badB
  by_cases h : tD L i ≤ t
  · have h1 : (rowI L (t + 1)).take (tD L i).toNat = (rowI L t).take (tD L i).toNat := by
      rw [rowI_take L _ (t + 1) (by omega), rowI_take L _ t (by omega)]
    have h2 : ((rowI L t).take (tD L i).toNat).count (i : Int) ≤ (rowI L t).count (i : Int) := (List.take_sublist _ _).count_le _
    rw [h1, count_succ]
    by_cases hb : bestI L (rowI L t) t L.length = i
    · simp [hb, h]; omega
    · simp [hb]
  · rw [rowI_take_ge L _ t (by omega), rowI_take_ge L _ (t + 1) (by omega)]
    simp [h]
theorem late_eq (L : Tk) (hL : ∀ i, 0 ≤ tN L i) (i : Nat) : lateB L i = (badB L 200 i || decide (0 < tN L i - ((rowI L 200).count (i : Int) : Int))) := by
  have h1 := count_le_len L hL i 200
  have h2 : ((rowI L 200).take (tD L i).toNat).count (i : Int) ≤ (rowI L 200).count (i : Int) := (List.take_sublist _ _).count_le _
  unfold lateB badB
  rw [Bool.eq_iff_iff]
  simp
  omega
/-! the plain theorem's tasks -/
def TT (L : Tk) : Due.Tasks := ⟨L.length, fun i => (tA L i).toNat, fun i => (tD L i).toNat, fun i => (tN L i).toNat⟩
def opt : Option Nat → Int
  | none => -1
  | some b => (b : Int)
theorem opt_some {o : Option Nat} {i : Nat} : opt o = (i : Int) ↔ o = some i := by
  cases o with
  | none => simp [opt]
  | some b => simp only [opt, Option.some.injEq]; omega
theorem opt_none : opt none = -1 := rfl
theorem opt_some' (b : Nat) : opt (some b) = (b : Int) := rfl
def OkT (L : Tk) : Prop := ∀ i, i < L.length → 0 ≤ tA L i ∧ 0 ≤ tD L i ∧ tD L i ≤ 200 ∧ 1 ≤ tN L i ∧ tN L i ≤ 200 ∧ tA L i + tN L i ≤ tD L i
theorem best_eq {L : Tk} (h : OkT L) (R : List Int) (now : Nat) (left : Nat → Nat) (hl : ∀ i, i < L.length → (left i : Int) + (R.count (i : Int) : Int) = tN L i) :
    ∀ k, k ≤ L.length → bestI L R now k = opt (Due.best (TT L) left now k)
  | 0, _ => rfl
  | k + 1, hk => by
    have ih := best_eq h R now left hl k (by omega)
    have hk2 := hl k (by omega)
    have ho := h k (by omega)
    have ea : ((TT L).at' k ≤ now) ↔ (tA L k ≤ now) := by show (tA L k).toNat ≤ now ↔ _; omega
    have el : (0 < left k) ↔ ((R.count (k : Int) : Int) < tN L k) := by omega
    cases hb : Due.best (TT L) left now k with
    | none =>
      rw [hb, opt_none] at ih
      by_cases c : tA L k ≤ now ∧ (R.count (k : Int) : Int) < tN L k
      · have e1 : Due.best (TT L) left now (k + 1) = some k := by
          simp only [Due.best, hb]
          rw [if_pos ⟨ea.2 c.1, el.2 c.2⟩]
        rw [e1, opt_some', bestI, if_pos ⟨c.1, c.2, .inl (by omega)⟩]
      · have e1 : Due.best (TT L) left now (k + 1) = none := by
          simp only [Due.best, hb]
          rw [if_neg (fun x => c ⟨ea.1 x.1, el.1 x.2⟩)]
        rw [e1, opt_none, bestI, if_neg (fun x => c ⟨x.1, x.2.1⟩), ih]
    | some b =>
      have hbk := (Due.best_some hb).1
      have hob := h b (by omega)
      have ed : (TT L).du k < (TT L).du b ↔ (tD L k < tD L b) := by show (tD L k).toNat < (tD L b).toNat ↔ _; omega
      rw [hb, opt_some'] at ih
      by_cases c : tA L k ≤ now ∧ (R.count (k : Int) : Int) < tN L k ∧ tD L k < tD L b
      · have e1 : Due.best (TT L) left now (k + 1) = some k := by
          simp only [Due.best, hb]
          rw [if_pos ⟨ea.2 c.1, el.2 c.2.1, ed.2 c.2.2⟩]
        rw [e1, opt_some', bestI, ih, if_pos ⟨c.1, c.2.1, .inr (by rw [Int.toNat_natCast]; exact c.2.2)⟩]
      · have e1 : Due.best (TT L) left now (k + 1) = some b := by
          simp only [Due.best, hb]
          rw [if_neg (fun x => c ⟨ea.1 x.1, el.1 x.2.1, ed.1 x.2.2⟩)]
        rw [e1, opt_some', bestI, ih, if_neg (fun x => c ⟨x.1, x.2.1, by
          rcases x.2.2 with y | y
          · omega
          · rw [Int.toNat_natCast] at y; exact y⟩)]
theorem left_eq {L : Tk} (h : OkT L) : ∀ t i, i < L.length → (Due.leftAt (TT L) t i : Int) + ((rowI L t).count (i : Int) : Int) = tN L i
  | 0, i, hi => by
    have := h i hi
    show ((tN L i).toNat : Int) + (([] : List Int).count (i : Int) : Int) = _
    simp; omega
  | t + 1, i, hi => by
    have ih := left_eq h t i hi
    have hb : bestI L (rowI L t) t L.length = opt (Due.pick (TT L) t) := best_eq h (rowI L t) t _ (left_eq h t) L.length (Nat.le_refl _)
    rw [Due.left_succ, count_succ, hb]
    by_cases e : Due.pick (TT L) t = some i
    · have h1 := (Due.best_some (show Due.best (TT L) (Due.leftAt (TT L) t) t (TT L).n = some i from e)).2.2
      rw [if_pos e, if_pos (opt_some.2 e)]
      omega
    · rw [if_neg e, if_neg (fun x => e (opt_some.1 x))]
      omega
theorem lateB_iff {L : Tk} (h : OkT L) {i : Nat} (hi : i < L.length) : lateB L i = true ↔ 0 < Due.leftAt (TT L) ((TT L).du i) i := by
  have h1 := left_eq h (tD L i).toNat i hi
  have h2 := h i hi
  unfold lateB
  rw [rowI_take L _ 200 (by omega)]
  simp only [decide_eq_true_eq]
  show _ ↔ 0 < Due.leftAt (TT L) (tD L i).toNat i
  omega
theorem lateI_nil {L : Tk} : ∀ k, lateI L k = [] ↔ ∀ i, i < k → lateB L i = false
  | 0 => by simp [lateI]
  | k + 1 => by
    have ih := lateI_nil (L := L) k
    unfold lateI
    cases hb : lateB L k with
    | true =>
      simp
      exact ⟨k, by omega, hb⟩
    | false =>
      simp only [Bool.false_eq_true, if_false, ih]
      exact ⟨fun x i hi => by
        by_cases e : i = k
        · rw [e]; exact hb
        · exact x i (by omega), fun x i hi => x i (by omega)⟩
theorem sum_need (L : Tk) (a b : Nat) (h : OkT L) : ∀ k, k ≤ L.length → needL (L.take k) a b = ((Due.sum (fun i => if Due.inn (TT L) a b i then (TT L).ln i else 0) k : Nat) : Int)
  | 0, _ => by simp [needL, Due.sum]
  | k + 1, hk => by
    have ih := sum_need L a b h k (by omega)
    obtain ⟨⟨x, y, z⟩, hx⟩ : ∃ x, L[k]? = some x := ⟨_, List.getElem?_eq_getElem (by omega)⟩
    obtain ⟨e1, e2, e3⟩ := tk_at hx
    have ho := h k (by omega)
    rw [needL_take hx, ih, Due.sum]
    have : (Due.inn (TT L) a b k = true) ↔ ((a : Int) ≤ x ∧ y ≤ (b : Int)) := by
      unfold Due.inn
      rw [decide_eq_true_eq]
      show (a ≤ (tA L k).toNat ∧ (tD L k).toNat ≤ b) ↔ _
      rw [e1, e2]
      rw [e1, e2] at ho
      omega
    by_cases c : (a : Int) ≤ x ∧ y ≤ (b : Int)
    · rw [if_pos c, if_pos (this.2 c)]
      show _ = ((_ + (tN L k).toNat : Nat) : Int)
      omega
    · rw [if_neg c, if_neg (fun x => c (this.1 x))]
      omega
theorem need_eq {L : Tk} (h : OkT L) (a b : Nat) : needL L a b = (Due.need (TT L) a b : Int) := by
  have := sum_need L a b h L.length (Nat.le_refl _)
  rw [List.take_length] at this
  exact this
/-- all in time: nothing is over -/
theorem fits_over {L : Tk} (h : OkT L) (hn : lateI L L.length = []) (a b : Int) (h0 : 0 ≤ a) (h1 : a < b) : ¬ Over L a b := by
  obtain ⟨x, rfl⟩ := Int.eq_ofNat_of_zero_le h0
  obtain ⟨y, rfl⟩ := Int.eq_ofNat_of_zero_le (show 0 ≤ b by omega)
  have hA : Due.AllIn (TT L) := fun i hi => by
    have h2 := (lateI_nil L.length).1 hn i hi
    have h3 : ¬ (0 < Due.leftAt (TT L) ((TT L).du i) i) := fun x => by rw [(lateB_iff h hi).2 x] at h2; cases h2
    omega
  have := Due.not_tight hA (a := x) (b := y) (by omega)
  unfold Over
  rw [need_eq h]
  omega
/-- one late: something is over -/
theorem late_over {L : Tk} (h : OkT L) (hn : lateI L L.length ≠ []) : ∃ a b, 0 ≤ a ∧ a < b ∧ b ≤ 200 ∧ Over L a b := by
  have : ∃ i, i < L.length ∧ lateB L i = true := by
    refine Decidable.byContradiction fun hc => hn ((lateI_nil _).2 fun i hi => ?_)
    cases hb : lateB L i with
    | false => rfl
    | true => exact (hc ⟨i, hi, hb⟩).elim
  obtain ⟨i, hi, hb⟩ := this
  obtain ⟨a, b, h1, h2, h3⟩ := Due.tight (T := TT L) (fun j hj => by have := h j hj; show (tA L j).toNat < (tD L j).toNat; omega) hi ((lateB_iff h hi).1 hb)
  have h4 := (h i hi).2.2.1
  have h5 : b = (tD L i).toNat := h2
  refine ⟨a, b, by omega, by omega, by omega, ?_⟩
  unfold Over
  rw [need_eq h]
  omega
theorem okT {L : Tk} (h : tasksB L = true) : OkT L := fun i hi => by
  obtain ⟨⟨x, y, z⟩, hx⟩ : ∃ x, L[i]? = some x := ⟨_, List.getElem?_eq_getElem hi⟩
  obtain ⟨e1, e2, e3⟩ := tk_at hx
  have := taskB_yes (tasksB_at h hx)
  rw [e1, e2, e3]
  exact this
end Go.Proofs.Ytdbipmidjdhjpaa
