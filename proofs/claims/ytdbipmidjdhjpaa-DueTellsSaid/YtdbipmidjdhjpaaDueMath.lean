/- Plain facts: tasks run earliest due first are all done in time if and only if no stretch of time has too much to do. -/
import Derived.Test.YtdbipmidjdhjpaaBase
namespace Go.Proofs.Ytdbipmidjdhjpaa.Due
set_option linter.unusedVariables false
/-- tasks: from when, till when, how long -/
structure Tasks where
  n : Nat
  at' : Nat → Nat
  du : Nat → Nat
  ln : Nat → Nat
/-- the best of the first k tasks at a time: the one that is due first, the first of these -/
def best (T : Tasks) (left : Nat → Nat) (now : Nat) : Nat → Option Nat
  | 0 => none
  | i + 1 => match best T left now i with
    | none => if T.at' i ≤ now ∧ 0 < left i then some i else none
    | some b => if T.at' i ≤ now ∧ 0 < left i ∧ T.du i < T.du b then some i else some b
/-- what is left of each task at a time -/
def leftAt (T : Tasks) : Nat → Nat → Nat
  | 0 => T.ln
  | t + 1 => fun i => if best T (leftAt T t) t T.n = some i then leftAt T t i - 1 else leftAt T t i
def pick (T : Tasks) (t : Nat) : Option Nat := best T (leftAt T t) t T.n
theorem best_some {T : Tasks} {left : Nat → Nat} {now : Nat} : ∀ {k i}, best T left now k = some i → i < k ∧ T.at' i ≤ now ∧ 0 < left i
  | 0, i, h => by simp [best] at h
  | k + 1, i, h => by
    unfold best at h
    cases hb : best T left now k with
    | none =>
      rw [hb] at h
      simp only at h
      split at h
      · obtain rfl := Option.some.inj h; omega
      · cases h
    | some b =>
      rw [hb] at h
      simp only at h
      have := best_some hb
      split at h
      · obtain rfl := Option.some.inj h; omega
      · obtain rfl := Option.some.inj h; omega
theorem best_least {T : Tasks} {left : Nat → Nat} {now : Nat} : ∀ {k j}, j < k → T.at' j ≤ now → 0 < left j → ∃ i, best T left now k = some i ∧ T.du i ≤ T.du j
  | 0, j, h, _, _ => absurd h (by omega)
  | k + 1, j, h, ha, hl => by
    unfold best
    cases hb : best T left now k with
    | none =>
      by_cases e : j = k
      · subst e; exact ⟨j, by simp [ha, hl], by omega⟩
      · obtain ⟨i, h1, _⟩ := best_least (k := k) (j := j) (by omega) ha hl
        rw [hb] at h1; cases h1
    | some b =>
      simp only
      by_cases e : j = k
      · subst e
        by_cases hd : T.du j < T.du b
        · exact ⟨j, by simp [ha, hl, hd], by omega⟩
        · exact ⟨b, by simp [hd], by omega⟩
      · obtain ⟨i, h1, h2⟩ := best_least (k := k) (j := j) (by omega) ha hl
        rw [hb] at h1
        obtain rfl := Option.some.inj h1
        split
        · exact ⟨k, rfl, by omega⟩
        · exact ⟨b, rfl, h2⟩
theorem left_succ (T : Tasks) (t i : Nat) : leftAt T (t + 1) i = if pick T t = some i then leftAt T t i - 1 else leftAt T t i := rfl
/-- how often a task is picked in k times from a on -/
def cnt (T : Tasks) (a i : Nat) : Nat → Nat
  | 0 => 0
  | k + 1 => cnt T a i k + if pick T (a + k) = some i then 1 else 0
theorem cnt_left (T : Tasks) (a i : Nat) : ∀ k, cnt T a i k + leftAt T (a + k) i = leftAt T a i
  | 0 => by simp [cnt]
  | k + 1 => by
    have ih := cnt_left T a i k
    rw [show a + (k + 1) = a + k + 1 from rfl, left_succ, cnt]
    split
    · have := (best_some (show best T (leftAt T (a + k)) (a + k) T.n = some i from ‹_›)).2.2
      omega
    · omega
theorem left_mono (T : Tasks) (i a k : Nat) : leftAt T (a + k) i ≤ leftAt T a i := by have := cnt_left T a i k; omega
/-- sums over the tasks -/
def sum (f : Nat → Nat) : Nat → Nat
  | 0 => 0
  | n + 1 => sum f n + f n
theorem sum_le {f g : Nat → Nat} : ∀ {n}, (∀ i, i < n → f i ≤ g i) → sum f n ≤ sum g n
  | 0, _ => Nat.le_refl _
  | n + 1, h => by
    have := sum_le (n := n) (fun i hi => h i (by omega))
    have := h n (by omega)
    simp only [sum]; omega
theorem sum_lt {f g : Nat → Nat} {j : Nat} : ∀ {n}, (∀ i, i < n → f i ≤ g i) → j < n → f j < g j → sum f n < sum g n
  | 0, _, h, _ => absurd h (by omega)
  | n + 1, h, hj, hl => by
    simp only [sum]
    by_cases e : j = n
    · subst e
      have := sum_le (f := f) (g := g) (n := j) (fun i hi => h i (by omega))
      omega
    · have := sum_lt (f := f) (g := g) (n := n) (fun i hi => h i (by omega)) (by omega) hl
      have := h n (by omega)
      omega
theorem sum_add (f g : Nat → Nat) : ∀ n, sum (fun i => f i + g i) n = sum f n + sum g n
  | 0 => rfl
  | n + 1 => by simp only [sum, sum_add f g n]; omega
theorem sum_zero : ∀ n, sum (fun _ => 0) n = 0
  | 0 => rfl
  | n + 1 => by simp only [sum, sum_zero n]
/-- a single one among n -/
theorem sum_one (p : Option Nat) : ∀ n, sum (fun i => if p = some i then 1 else 0) n = if (∃ i, p = some i ∧ i < n) then 1 else 0
  | 0 => by simp [sum]
  | n + 1 => by
    simp only [sum, sum_one p n]
    cases p with
    | none => simp
    | some j =>
      simp only [Option.some.injEq, exists_eq_left']
      by_cases h1 : j < n
      · simp [h1, show j < n + 1 by omega, show j ≠ n by omega]
      · by_cases h2 : j = n
        · simp [h2]
        · simp [h1, h2, show ¬ j < n + 1 by omega]
def inn (T : Tasks) (a b i : Nat) : Bool := decide (a ≤ T.at' i ∧ T.du i ≤ b)
/-- what there is to do within a stretch -/
def need (T : Tasks) (a b : Nat) : Nat := sum (fun i => if inn T a b i then T.ln i else 0) T.n
theorem cnt_sum_le (T : Tasks) (a : Nat) : ∀ k, sum (fun i => cnt T a i k) T.n ≤ k
  | 0 => by simp only [cnt, sum_zero]; omega
  | k + 1 => by
    have ih := cnt_sum_le T a k
    simp only [cnt]
    rw [sum_add, sum_one]
    split <;> omega
theorem sum_congr {f g : Nat → Nat} : ∀ {n}, (∀ i, i < n → f i = g i) → sum f n = sum g n
  | 0, _ => rfl
  | n + 1, h => by
    have := sum_congr (n := n) (fun i hi => h i (by omega))
    simp only [sum, this, h n (by omega)]
theorem cnt_add (T : Tasks) (a i k : Nat) : ∀ m, cnt T a i (k + m) = cnt T a i k + cnt T (a + k) i m
  | 0 => by simp [cnt]
  | m + 1 => by
    rw [show k + (m + 1) = k + m + 1 from rfl, cnt, cnt, cnt_add T a i k m, Nat.add_assoc a k m]
    omega
theorem cnt_none (T : Tasks) (i k : Nat) (h : k ≤ T.at' i) : cnt T 0 i k = 0 := by
  induction k with
  | zero => rfl
  | succ k ih =>
    rw [cnt, ih (by omega)]
    split
    · have := (best_some (show best T (leftAt T (0 + k)) (0 + k) T.n = some i from ‹_›)).2.1
      omega
    · rfl
/-- are all done in time? -/
def AllIn (T : Tasks) : Prop := ∀ i, i < T.n → leftAt T (T.du i) i = 0
/-- all in time: no stretch has too much -/
theorem not_tight {T : Tasks} (h : AllIn T) {a b : Nat} (hab : a ≤ b) : need T a b ≤ b - a := by
  refine Nat.le_trans (sum_le fun i hi => ?_) (cnt_sum_le T a (b - a))
  cases hc : inn T a b i
  · simp
  · obtain ⟨h1, h2⟩ := of_decide_eq_true hc
    rw [if_pos rfl]
    have e1 := cnt_left T 0 i (T.du i)
    rw [Nat.zero_add, h i hi] at e1
    have e2 := cnt_add T 0 i a (b - a)
    rw [Nat.zero_add, cnt_none T i a h1, show a + (b - a) = b from by omega] at e2
    have e3 := cnt_add T 0 i (T.du i) (b - T.du i)
    rw [show T.du i + (b - T.du i) = b from by omega] at e3
    have e4 : leftAt T 0 i = T.ln i := rfl
    omega
/-- one late: a stretch has too much -/
theorem tight {T : Tasks} (hT : ∀ i, i < T.n → T.at' i < T.du i) {i : Nat} (hi : i < T.n) (hl : 0 < leftAt T (T.du i) i) : ∃ a b, a < b ∧ b = T.du i ∧ b - a < need T a b := by
  have hgood : ∀ s, T.at' i ≤ s → s < T.du i → ∃ j, pick T s = some j ∧ T.du j ≤ T.du i := fun s h1 h2 => by
    have := left_mono T i s (T.du i - s)
    rw [show s + (T.du i - s) = T.du i from by omega] at this
    exact best_least hi h1 (by omega)
  have hdesc : ∀ k, (∀ s, k ≤ s → s < T.du i → ∃ j, pick T s = some j ∧ T.du j ≤ T.du i) → ∃ a, a ≤ k ∧ (∀ s, a ≤ s → s < T.du i → ∃ j, pick T s = some j ∧ T.du j ≤ T.du i) ∧ (∀ c, c + 1 = a → ¬ ∃ j, pick T c = some j ∧ T.du j ≤ T.du i) := by
    intro k
    induction k with
    | zero => exact fun h => ⟨0, by omega, h, fun c hc => by omega⟩
    | succ k ih =>
      intro h
      by_cases hp : ∃ j, pick T k = some j ∧ T.du j ≤ T.du i
      · obtain ⟨a, h1, h2, h3⟩ := ih fun s hs1 hs2 => by
          by_cases e : s = k
          · subst e; exact hp
          · exact h s (by omega) hs2
        exact ⟨a, by omega, h2, h3⟩
      · refine ⟨k + 1, by omega, h, fun c hc => ?_⟩
        have e : c = k := by omega
        rw [e]
        exact hp
  obtain ⟨a, ha, hg, hc⟩ := hdesc _ hgood
  have hd := hT i hi
  have hin : ∀ s j, a ≤ s → s < T.du i → pick T s = some j → inn T a (T.du i) j = true := fun s j h1 h2 h3 => by
    obtain ⟨j', h4, h5⟩ := hg s h1 h2
    rw [h3] at h4
    obtain rfl := Option.some.inj h4
    obtain ⟨b1, b2, b3⟩ := best_some h3
    refine decide_eq_true ⟨?_, h5⟩
    refine Decidable.byContradiction fun hlt => ?_
    have hm := left_mono T j (a - 1) (s - (a - 1))
    rw [show a - 1 + (s - (a - 1)) = s from by omega] at hm
    obtain ⟨i', e1, e2⟩ := best_least (T := T) (left := leftAt T (a - 1)) (now := a - 1) b1 (by omega) (by omega)
    exact hc (a - 1) (by omega) ⟨i', e1, by omega⟩
  have hsum : ∀ k, k ≤ T.du i - a → sum (fun j => if inn T a (T.du i) j then cnt T a j k else 0) T.n = k := by
    intro k
    induction k with
    | zero => intro _; rw [sum_congr (g := fun _ => 0) (fun j _ => by simp [cnt]), sum_zero]
    | succ k ih =>
      intro hk
      obtain ⟨j, hp, _⟩ := hg (a + k) (by omega) (by omega)
      rw [sum_congr (g := fun j => (if inn T a (T.du i) j then cnt T a j k else 0) + if pick T (a + k) = some j then 1 else 0) (fun q _ => by
        by_cases hq : pick T (a + k) = some q
        · simp [cnt, hq, hin (a + k) q (by omega) (by omega) hq]
        · simp [cnt, hq]), sum_add, ih (by omega), sum_one, if_pos ⟨j, hp, (best_some hp).1⟩]
  refine ⟨a, T.du i, by omega, rfl, ?_⟩
  have h1 := hsum (T.du i - a) (Nat.le_refl _)
  have h2 : sum (fun j => if inn T a (T.du i) j then cnt T a j (T.du i - a) else 0) T.n < need T a (T.du i) := by
    refine sum_lt (j := i) (fun j hj => ?_) hi ?_
    · have := cnt_left T a j (T.du i - a)
      have := left_mono T j 0 a
      rw [Nat.zero_add] at this
      have e4 : leftAt T 0 j = T.ln j := rfl
      split <;> omega
    · have h5 := cnt_left T a i (T.du i - a)
      rw [show a + (T.du i - a) = T.du i from by omega] at h5
      have h6 := left_mono T i 0 a
      rw [Nat.zero_add] at h6
      have e4 : leftAt T 0 i = T.ln i := rfl
      have hii : inn T a (T.du i) i = true := decide_eq_true ⟨ha, Nat.le_refl _⟩
      simp only [hii, if_true]
      omega
  omega
end Go.Proofs.Ytdbipmidjdhjpaa.Due
