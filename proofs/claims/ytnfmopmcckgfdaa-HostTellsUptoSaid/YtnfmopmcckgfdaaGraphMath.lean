/- Plain facts on graphs: the closure by rows of bits is what can be reached; when all can be put into a row. -/
import Derived.Test.YtnfmopmcckgfdaaBase
namespace Go.Proofs.Ytnfmopmcckgfdaa.Gr
set_option linter.unusedVariables false
abbrev El := List (Int × Int)
/-- an edge -/
def ed (L : El) (i j : Nat) : Prop := ((i : Int), (j : Int)) ∈ L
instance (L : El) (i j : Nat) : Decidable (ed L i j) := by unfold ed; infer_instance
def Ok (n : Nat) (L : El) : Prop := ∀ x, x ∈ L → 0 ≤ x.1 ∧ x.1 < n ∧ 0 ≤ x.2 ∧ x.2 < n
theorem Ok.ed {n : Nat} {L : El} (h : Ok n L) {i j : Nat} (e : ed L i j) : i < n ∧ j < n := by
  have := h _ e
  simp only at this
  omega
inductive Reach (L : El) : Nat → Nat → Prop
  | one {i j} : ed L i j → Reach L i j
  | more {i k j} : ed L i k → Reach L k j → Reach L i j
theorem Reach.trans {L : El} {i k j : Nat} (h : Reach L i k) (g : Reach L k j) : Reach L i j := by
  induction h with
  | one e => exact .more e g
  | more e _ ih => exact .more e (ih g)
theorem Reach.lt {n : Nat} {L : El} (hO : Ok n L) {i j : Nat} (h : Reach L i j) : i < n ∧ j < n := by
  induction h with
  | one e => exact hO.ed e
  | more e _ ih => exact ⟨(hO.ed e).1, ih.2⟩
/-- the last edge of a way -/
theorem Reach.last {L : El} {i j : Nat} (h : Reach L i j) : ∃ k, (k = i ∨ Reach L i k) ∧ ed L k j := by
  induction h with
  | one e => exact ⟨_, .inl rfl, e⟩
  | more e _ ih =>
    obtain ⟨k, h1, h2⟩ := ih
    rcases h1 with rfl | h1
    · exact ⟨_, .inr (.one e), h2⟩
    · exact ⟨_, .inr (.more e h1), h2⟩
/-- rows of bits, of the first k edges -/
def rowK (L : El) : Nat → Nat → Nat
  | 0, _ => 0
  | k + 1, i => match L[k]? with
    | some (x, y) => if x = (i : Int) then rowK L k i ||| 2 ^ y.toNat else rowK L k i
    | none => rowK L k i
def rowN (L : El) (i : Nat) : Nat := rowK L L.length i
theorem rowK_bit {n : Nat} {L : El} (hO : Ok n L) (i j : Nat) : ∀ k, k ≤ L.length → ((rowK L k i).testBit j = true ↔ ((i : Int), (j : Int)) ∈ L.take k)
  | 0, _ => by simp [rowK]
  | k + 1, hk => by
    have ih := rowK_bit hO i j k (by omega)
    obtain ⟨⟨x, y⟩, hx⟩ : ∃ p, L[k]? = some p := ⟨_, List.getElem?_eq_getElem (by omega)⟩
    have ho := hO _ (List.mem_of_getElem? hx)
    simp only at ho
    rw [List.take_add_one, hx, rowK]
    simp only [hx, Option.toList_some, List.mem_append, List.mem_singleton, Prod.mk.injEq]
    by_cases e : x = (i : Int)
    · rw [if_pos e, Nat.testBit_or, Bool.or_eq_true, ih, Nat.testBit_two_pow]
      simp only [decide_eq_true_eq]
      constructor
      · rintro (h | h)
        · exact .inl h
        · exact .inr ⟨e.symm, by omega⟩
      · rintro (h | h)
        · exact .inl h
        · exact .inr (by omega)
    · rw [if_neg e, ih]
      constructor
      · exact .inl
      · rintro (h | h)
        · exact h
        · exact (e h.1.symm).elim
theorem rowN_bit {n : Nat} {L : El} (hO : Ok n L) (i j : Nat) : (rowN L i).testBit j = true ↔ ed L i j := by
  have := rowK_bit hO i j L.length (Nat.le_refl _)
  rwa [List.take_length] at this
theorem rowK_lt {n : Nat} {L : El} (hO : Ok n L) (i : Nat) : ∀ k, k ≤ L.length → rowK L k i < 2 ^ n
  | 0, _ => Nat.pow_pos (by decide)
  | k + 1, hk => by
    have ih := rowK_lt hO i k (by omega)
    obtain ⟨⟨x, y⟩, hx⟩ : ∃ p, L[k]? = some p := ⟨_, List.getElem?_eq_getElem (by omega)⟩
    have ho := hO _ (List.mem_of_getElem? hx)
    simp only at ho
    simp only [rowK, hx]
    split
    · exact Nat.or_lt_two_pow ih (Nat.pow_lt_pow_right (by decide) (by omega))
    · exact ih
/-- one column: the first m rows are done -/
def wIn (c : Nat → Nat) (k : Nat) : Nat → Nat → Nat
  | 0 => c
  | i + 1 => fun x => if x = i then (if (wIn c k i i).testBit k then wIn c k i i ||| wIn c k i k else wIn c k i i) else wIn c k i x
def wOut (n : Nat) (r : Nat → Nat) : Nat → Nat → Nat
  | 0 => r
  | k + 1 => wIn (wOut n r k) k n
theorem wIn_eq (c : Nat → Nat) (k : Nat) : ∀ i x, wIn c k i x = if x < i then (if (c x).testBit k then c x ||| c k else c x) else c x
  | 0, x => by simp [wIn]
  | i + 1, x => by
    have ihi := wIn_eq c k i i
    have ihk := wIn_eq c k i k
    have ihx := wIn_eq c k i x
    rw [if_neg (Nat.lt_irrefl _)] at ihi
    have hk : wIn c k i k = c k := by rw [ihk]; split <;> (try split) <;> simp
    unfold wIn
    by_cases e : x = i
    · subst e; rw [if_pos rfl, ihi, hk, if_pos (show x < x + 1 by omega)]
    · rw [if_neg e, ihx]
      by_cases h : x < i
      · rw [if_pos h, if_pos (show x < i + 1 by omega)]
      · rw [if_neg h, if_neg (show ¬ x < i + 1 by omega)]
theorem wOut_lt {n : Nat} {r : Nat → Nat} {B : Nat} (h : ∀ i, r i < 2 ^ B) : ∀ k i, wOut n r k i < 2 ^ B
  | 0, i => h i
  | k + 1, i => by
    have ih := wOut_lt (n := n) h k
    show wIn (wOut n r k) k n i < _
    rw [wIn_eq]
    split
    · split
      · exact Nat.or_lt_two_pow (ih i) (ih k)
      · exact ih i
    · exact ih i
theorem wIn_lt {c : Nat → Nat} {k B : Nat} (h : ∀ i, c i < 2 ^ B) (i x : Nat) : wIn c k i x < 2 ^ B := by
  rw [wIn_eq]
  split
  · split
    · exact Nat.or_lt_two_pow (h x) (h k)
    · exact h x
  · exact h x
/-- ways whose inner things are below k -/
def Vi (L : El) : Nat → Nat → Nat → Prop
  | 0, i, j => ed L i j
  | k + 1, i, j => Vi L k i j ∨ (Vi L k i k ∧ Vi L k k j)
theorem Vi.reach {L : El} : ∀ {k i j}, Vi L k i j → Reach L i j
  | 0, _, _, h => .one h
  | k + 1, _, _, h => by
    rcases h with h | ⟨h, g⟩
    · exact h.reach
    · exact h.reach.trans g.reach
theorem Vi.join {L : El} : ∀ {k i m j}, m < k → Vi L k i m → Vi L k m j → Vi L k i j
  | 0, _, _, _, h, _, _ => absurd h (by omega)
  | k + 1, i, m, j, hm, h, g => by
    by_cases e : m = k
    · subst e
      have h' : Vi L m i m := by rcases h with h | h; exact h; exact h.1
      have g' : Vi L m m j := by rcases g with g | g; exact g; exact g.2
      exact .inr ⟨h', g'⟩
    · have hm : m < k := by omega
      rcases h with h | ⟨h, h2⟩
      · rcases g with g | ⟨g, g2⟩
        · exact .inl (Vi.join hm h g)
        · exact .inr ⟨Vi.join hm h g, g2⟩
      · rcases g with g | ⟨g, g2⟩
        · exact .inr ⟨h, Vi.join hm h2 g⟩
        · exact .inr ⟨h, g2⟩
theorem Vi.of {L : El} {i j : Nat} (h : ed L i j) : ∀ k, Vi L k i j
  | 0 => h
  | k + 1 => .inl (Vi.of h k)
theorem reach_vi {n : Nat} {L : El} (hO : Ok n L) {i j : Nat} (h : Reach L i j) : Vi L n i j := by
  induction h with
  | one e => exact Vi.of e n
  | more e _ ih => exact Vi.join (hO.ed e).2 (Vi.of e n) ih
theorem wOut_bit {n : Nat} {L : El} (hO : Ok n L) : ∀ k, k ≤ n → ∀ i j, i < n → ((wOut n (rowN L) k i).testBit j = true ↔ Vi L k i j)
  | 0, _, i, j, _ => rowN_bit hO i j
  | k + 1, hk, i, j, hi => by
    have ih := wOut_bit hO k (by omega)
    show (wIn (wOut n (rowN L) k) k n i).testBit j = true ↔ _
    rw [wIn_eq, if_pos hi]
    show _ ↔ (Vi L k i j ∨ (Vi L k i k ∧ Vi L k k j))
    by_cases c : (wOut n (rowN L) k i).testBit k = true
    · rw [if_pos c, Nat.testBit_or, Bool.or_eq_true, ih i j hi, ih k j (by omega)]
      have := (ih i k hi).1 c
      constructor
      · rintro (h | h)
        · exact .inl h
        · exact .inr ⟨this, h⟩
      · rintro (h | h)
        · exact .inl h
        · exact .inr h.2
    · rw [if_neg c, ih i j hi]
      constructor
      · exact .inl
      · rintro (h | h)
        · exact h
        · exact (c ((ih i k hi).2 h.1)).elim
/-- what comes behind a thing, as a row of bits -/
def cl (n : Nat) (L : El) (i : Nat) : Nat := wOut n (rowN L) n i
theorem cl_bit {n : Nat} {L : El} (hO : Ok n L) {i : Nat} (hi : i < n) (j : Nat) : (cl n L i).testBit j = true ↔ Reach L i j :=
  (wOut_bit hO n (Nat.le_refl _) i j hi).trans ⟨Vi.reach, reach_vi hO⟩
def rb (n : Nat) (L : El) (i j : Nat) : Bool := (cl n L i).testBit j
theorem rb_iff {n : Nat} {L : El} (hO : Ok n L) {i : Nat} (hi : i < n) (j : Nat) : rb n L i j = true ↔ Reach L i j := cl_bit hO hi j
/-- the bits of a number below m, rising -/
def bitsOf (s : Nat) : Nat → List Nat
  | 0 => []
  | m + 1 => if s.testBit m then bitsOf s m ++ [m] else bitsOf s m
/-- those below m for which f says yes, rising -/
def yes (f : Nat → Bool) : Nat → List Nat
  | 0 => []
  | m + 1 => if f m then yes f m ++ [m] else yes f m
theorem yes_congr {f g : Nat → Bool} : ∀ {m}, (∀ i, i < m → f i = g i) → yes f m = yes g m
  | 0, _ => rfl
  | m + 1, h => by
    unfold yes
    rw [h m (by omega), yes_congr fun i hi => h i (by omega)]
theorem mem_yes {f : Nat → Bool} {i : Nat} : ∀ {m}, i ∈ yes f m ↔ i < m ∧ f i = true
  | 0 => by simp [yes]
  | m + 1 => by
    have ih := mem_yes (f := f) (i := i) (m := m)
    unfold yes
    by_cases h : f m = true
    · rw [if_pos h, List.mem_append, ih, List.mem_singleton]
      constructor
      · rintro (⟨a, b⟩ | rfl)
        · exact ⟨by omega, b⟩
        · exact ⟨by omega, h⟩
      · rintro ⟨a, b⟩
        by_cases e : i = m
        · exact .inr e
        · exact .inl ⟨by omega, b⟩
    · rw [if_neg h, ih]
      constructor
      · rintro ⟨a, b⟩; exact ⟨by omega, b⟩
      · rintro ⟨a, b⟩
        by_cases e : i = m
        · subst e; exact (h b).elim
        · exact ⟨by omega, b⟩
theorem yes_length (f : Nat → Bool) : ∀ m, (yes f m).length ≤ m
  | 0 => Nat.le_refl _
  | m + 1 => by
    have := yes_length f m
    unfold yes
    split
    · simp; omega
    · omega
/-- those that come behind themselves -/
def knot (n : Nat) (L : El) : List Nat := yes (fun i => rb n L i i) n
theorem knot_nil {n : Nat} {L : El} (hO : Ok n L) : knot n L = [] ↔ ∀ i, ¬ Reach L i i := by
  constructor
  · intro h i hr
    have hi := (hr.lt hO).1
    have : i ∈ knot n L := mem_yes.2 ⟨hi, (rb_iff hO hi i).2 hr⟩
    rw [h] at this
    cases this
  · intro h
    refine List.eq_nil_iff_forall_not_mem.2 fun i hi => ?_
    obtain ⟨h1, h2⟩ := mem_yes.1 hi
    exact h i ((rb_iff hO h1 i).1 h2)
/-! a row of all -/
/-- the first thing of those left (a row of bits) that has nothing left ahead of it; n: none -/
def okAt (L : El) (left : Nat → Bool) (i : Nat) : Bool := left i && !(L.any fun x => decide (x.2 = (i : Int)) && left x.1.toNat)
def firstFrom (f : Nat → Bool) : Nat → Nat → Nat
  | 0, i => i
  | k + 1, i => if f i then i else firstFrom f k (i + 1)
def first (n : Nat) (f : Nat → Bool) : Nat := firstFrom f n 0
theorem firstFrom_spec (f : Nat → Bool) : ∀ k i, i ≤ firstFrom f k i ∧ firstFrom f k i ≤ i + k ∧ (∀ j, i ≤ j → j < firstFrom f k i → f j = false) ∧ (firstFrom f k i < i + k → f (firstFrom f k i) = true)
  | 0, i => by simp only [firstFrom]; exact ⟨Nat.le_refl _, Nat.le_refl _, fun j h g => by omega, fun h => by omega⟩
  | k + 1, i => by
    obtain ⟨h1, h2, h3, h4⟩ := firstFrom_spec f k (i + 1)
    unfold firstFrom
    by_cases h : f i = true
    · rw [if_pos h]; exact ⟨Nat.le_refl _, by omega, fun j a b => by omega, fun _ => h⟩
    · rw [if_neg h]
      refine ⟨by omega, by omega, fun j a b => ?_, fun a => h4 (by omega)⟩
      by_cases e : j = i
      · subst e; simpa using h
      · exact h3 j (by omega) b
theorem first_spec (n : Nat) (f : Nat → Bool) : first n f ≤ n ∧ (∀ j, j < first n f → f j = false) ∧ (first n f < n → f (first n f) = true) := by
  obtain ⟨h1, h2, h3, h4⟩ := firstFrom_spec f n 0
  exact ⟨by have := h2; unfold first; omega, fun j hj => h3 j (by omega) hj, fun h => h4 (by unfold first at h; omega)⟩
theorem first_is {n i : Nat} {f : Nat → Bool} (h1 : ∀ j, j < i → f j = false) (h2 : i ≤ n) (h3 : i < n → f i = true) : first n f = i := by
  obtain ⟨g1, g2, g3⟩ := first_spec n f
  refine Nat.le_antisymm ?_ ?_
  · refine Decidable.byContradiction fun h => ?_
    have := g2 i (by omega)
    rw [h3 (by omega)] at this; cases this
  · refine Decidable.byContradiction fun h => ?_
    have := g3 (by omega)
    rw [h1 _ (by omega)] at this; cases this
/-- of the first t steps: which are left, and the row -/
structure St where
  left : Nat → Bool
  row : List Nat
def step (n : Nat) (L : El) (s : St) : St :=
  if first n (okAt L s.left) < n then ⟨fun i => s.left i && decide (i ≠ first n (okAt L s.left)), s.row ++ [first n (okAt L s.left)]⟩ else s
def steps (n : Nat) (L : El) : Nat → St
  | 0 => ⟨fun i => decide (i < n), []⟩
  | t + 1 => step n L (steps n L t)
theorem step_go {n : Nat} {L : El} {s : St} (h : first n (okAt L s.left) < n) : step n L s = ⟨fun i => s.left i && decide (i ≠ first n (okAt L s.left)), s.row ++ [first n (okAt L s.left)]⟩ := if_pos h
theorem step_stuck {n : Nat} {L : El} {s : St} (h : ¬ first n (okAt L s.left) < n) : step n L s = s := if_neg h
theorem okAt_iff {n : Nat} {L : El} (hO : Ok n L) (left : Nat → Bool) (i : Nat) : okAt L left i = true ↔ left i = true ∧ ∀ j, ed L j i → left j = false := by
  unfold okAt
  rw [Bool.and_eq_true, Bool.not_eq_true', List.any_eq_false]
  constructor
  · rintro ⟨h1, h2⟩
    refine ⟨h1, fun j hj => ?_⟩
    have := h2 _ hj
    simpa using this
  · rintro ⟨h1, h2⟩
    refine ⟨h1, fun x hx => ?_⟩
    have ho := hO x hx
    by_cases e : x.2 = (i : Int)
    · have : ed L x.1.toNat i := by
        unfold ed
        rw [show ((x.1.toNat : Nat) : Int) = x.1 from by omega, ← e]
        exact hx
      simp [h2 _ this]
    · simp [e]
/-- how many below m -/
def many (f : Nat → Bool) : Nat → Nat
  | 0 => 0
  | m + 1 => many f m + if f m then 1 else 0
theorem many_le {f g : Nat → Bool} : ∀ {m}, (∀ i, i < m → f i = true → g i = true) → many f m ≤ many g m
  | 0, _ => Nat.le_refl _
  | m + 1, h => by
    have := many_le (m := m) fun i hi => h i (by omega)
    unfold many
    by_cases a : f m = true
    · rw [if_pos a, if_pos (h m (by omega) a)]; omega
    · rw [if_neg a]; omega
theorem many_lt {f g : Nat → Bool} {j : Nat} : ∀ {m}, (∀ i, i < m → f i = true → g i = true) → j < m → f j = false → g j = true → many f m < many g m
  | 0, _, h, _, _ => absurd h (by omega)
  | m + 1, h, hj, h1, h2 => by
    unfold many
    by_cases e : j = m
    · subst e
      have := many_le (m := j) fun i hi => h i (by omega)
      rw [h1, h2]; simp; omega
    · have := many_lt (m := m) (fun i hi => h i (by omega)) (by omega) h1 h2
      by_cases a : f m = true
      · rw [if_pos a, if_pos (h m (by omega) a)]; omega
      · rw [if_neg a]; omega
theorem many_zero {f : Nat → Bool} : ∀ {m}, many f m = 0 → ∀ i, i < m → f i = false
  | 0, _, i, hi => absurd hi (by omega)
  | m + 1, h, i, hi => by
    unfold many at h
    by_cases a : f m = true
    · rw [if_pos a] at h; omega
    · by_cases e : i = m
      · subst e; simpa using a
      · exact many_zero (m := m) (by omega) i (by omega)
theorem many_none {f : Nat → Bool} : ∀ {m}, (∀ i, i < m → f i = false) → many f m = 0
  | 0, _ => rfl
  | m + 1, h => by
    have := many_none (m := m) fun i hi => h i (by omega)
    unfold many
    rw [h m (by omega)]; simpa using this
theorem many_drop {f : Nat → Bool} {j : Nat} (hf : f j = true) : ∀ {m}, j < m → many f m = many (fun i => f i && decide (i ≠ j)) m + 1
  | 0, h => absurd h (by omega)
  | m + 1, h => by
    unfold many
    by_cases e : j = m
    · subst e
      have : many (fun i => f i && decide (i ≠ j)) j = many f j := by
        apply Nat.le_antisymm
        · exact many_le fun i hi h => by simp at h; exact h.1
        · exact many_le fun i hi h => by simp [h]; omega
      have e2 : ¬ ((f j && decide (j ≠ j)) = true) := by simp
      rw [this, if_pos hf, if_neg e2]
    · have := many_drop hf (m := m) (by omega)
      have e2 : m ≠ j := fun h => e h.symm
      rw [this]
      by_cases a : f m = true
      · rw [if_pos a, if_pos (show (f m && decide (m ≠ j)) = true by simp [a, e2])]
      · rw [if_neg a, if_neg (show ¬ ((f m && decide (m ≠ j)) = true) by simp [a])]
/-- without a knot, where something is left there is a thing with nothing left ahead of it -/
theorem some_first {n : Nat} {L : El} (hO : Ok n L) (hk : ∀ i, ¬ Reach L i i) {left : Nat → Bool} {i : Nat} (hi : i < n) (hl : left i = true) : first n (okAt L left) < n := by
  have key : ∀ m i, i < n → left i = true → many (fun j => rb n L j i) n ≤ m → ∃ x, x < n ∧ okAt L left x = true := by
    intro m
    induction m with
    | zero =>
      intro i hi hl hm
      refine ⟨i, hi, (okAt_iff hO _ _).2 ⟨hl, fun j hj => ?_⟩⟩
      have := many_zero (Nat.le_zero.1 hm) j (hO.ed hj).1
      rw [(rb_iff hO (hO.ed hj).1 i).2 (.one hj)] at this; cases this
    | succ m ih =>
      intro i hi hl hm
      by_cases h : okAt L left i = true
      · exact ⟨i, hi, h⟩
      · have : ∃ j, ed L j i ∧ left j = true := by
          refine Classical.byContradiction fun hc => h ((okAt_iff hO _ _).2 ⟨hl, fun j hj => ?_⟩)
          cases hb : left j with
          | false => rfl
          | true => exact (hc ⟨j, hj, hb⟩).elim
        obtain ⟨j, hj, hb⟩ := this
        have hjn := (hO.ed hj).1
        refine ih j hjn hb ?_
        have : many (fun x => rb n L x j) n < many (fun x => rb n L x i) n := by
          refine many_lt (j := j) (fun x hx h => ?_) hjn ?_ ?_
          · exact (rb_iff hO hx i).2 (((rb_iff hO hx j).1 h).trans (.one hj))
          · cases hb : rb n L j j with
            | false => rfl
            | true => exact (hk j ((rb_iff hO hjn j).1 hb)).elim
          · exact (rb_iff hO hjn i).2 (.one hj)
        omega
  obtain ⟨x, hx, hok⟩ := key _ i hi hl (Nat.le_refl _)
  obtain ⟨g1, g2, g3⟩ := first_spec n (okAt L left)
  refine Decidable.byContradiction fun h => ?_
  have := g2 x (by omega)
  rw [hok] at this; cases this
/-- with a knot a thing of it is always left -/
theorem knot_left {n : Nat} {L : El} (hO : Ok n L) {i : Nat} (hk : Reach L i i) : ∀ t j, Reach L i j → Reach L j i → (steps n L t).left j = true
  | 0, j, h1, h2 => by simp only [steps]; exact decide_eq_true (h2.lt hO).1
  | t + 1, j, h1, h2 => by
    have ih := knot_left hO hk t
    show (step n L (steps n L t)).left j = true
    by_cases h : first n (okAt L (steps n L t).left) < n
    · rw [step_go h]
      simp only [Bool.and_eq_true, decide_eq_true_eq]
      refine ⟨ih j h1 h2, fun e => ?_⟩
      obtain ⟨_, _, g3⟩ := first_spec n (okAt L (steps n L t).left)
      have := ((okAt_iff hO _ _).1 (g3 h)).2
      rw [← e] at this
      obtain ⟨k, hk1, hk2⟩ := (h2.trans h1).last
      have hk3 : (steps n L t).left k = true := by
        rcases hk1 with rfl | hk1
        · exact ih _ h1 h2
        · exact ih k (h1.trans hk1) ((Reach.one hk2).trans h2)
      rw [this k hk2] at hk3; cases hk3
    · rw [step_stuck h]; exact ih j h1 h2
/-- how many are left -/
theorem many_step {n : Nat} {L : El} (hO : Ok n L) {s : St} (h : first n (okAt L s.left) < n) : many s.left n = many (step n L s).left n + 1 := by
  obtain ⟨_, _, g3⟩ := first_spec n (okAt L s.left)
  rw [step_go h]
  exact many_drop ((okAt_iff hO _ _).1 (g3 h)).1 h
end Go.Proofs.Ytnfmopmcckgfdaa.Gr
