/- Plain: sums over a giving of jobs, the least of all costs, sets of jobs as numbers. -/
import Derived.Test.YtjmpfkolpgbebaaAssignM
namespace Go.Proofs.Ytjmpfkolpgbebaa.As
set_option linter.unusedVariables false
variable {n i : Nat} {C : Nat → Nat → Int}
/-- the sum of the first n -/
def sm (f : Nat → Int) : Nat → Int
  | 0 => 0
  | n + 1 => sm f n + f n
theorem sm_congr {f g : Nat → Int} : ∀ n, (∀ p, p < n → f p = g p) → sm f n = sm g n
  | 0, _ => rfl
  | n + 1, h => by rw [sm, sm, sm_congr n fun p hp => h p (by omega), h n (by omega)]
theorem sm_add (f g : Nat → Int) : ∀ n, sm (fun p => f p + g p) n = sm f n + sm g n
  | 0 => rfl
  | n + 1 => by rw [sm, sm, sm, sm_add f g n]; omega
theorem sm_le {f g : Nat → Int} : ∀ n, (∀ p, p < n → f p ≤ g p) → sm f n ≤ sm g n
  | 0, _ => Int.le_refl _
  | n + 1, h => by
    have h1 := sm_le n fun p hp => h p (by omega)
    have h2 := h n (by omega)
    rw [sm, sm]; omega
theorem sm_bound {f : Nat → Int} {M : Int} : ∀ n, (∀ p, p < n → -M ≤ f p ∧ f p ≤ M) → -(M * n) ≤ sm f n ∧ sm f n ≤ M * n
  | 0, _ => by simp [sm]
  | n + 1, h => by
    have h1 := sm_bound n fun p hp => h p (by omega)
    have h2 := h n (by omega)
    rw [sm]
    have e : M * ((n + 1 : Nat) : Int) = M * n + M := by rw [Int.natCast_succ, Int.mul_add, Int.mul_one]
    rw [e]
    omega
def lsum : List Int → Int
  | [] => 0
  | x :: l => x + lsum l
theorem lsum_append (a b : List Int) : lsum (a ++ b) = lsum a + lsum b := by
  induction a with
  | nil => simp [lsum]
  | cons x a ih => simp [lsum, ih]; omega
theorem lsum_perm {a b : List Int} (h : a.Perm b) : lsum a = lsum b := by
  induction h with
  | nil => rfl
  | cons x _ ih => simp [lsum, ih]
  | swap x y l => simp only [lsum]; omega
  | trans _ _ ih1 ih2 => exact ih1.trans ih2
theorem sm_list (f : Nat → Int) : ∀ n, sm f n = lsum ((List.range n).map f)
  | 0 => rfl
  | n + 1 => by rw [sm, sm_list f n, List.range_succ, List.map_append, lsum_append]; simp [lsum]
/-- a giving of jobs to the first i -/
structure Give (n i : Nat) (t : Nat → Nat) : Prop where
  lt : ∀ p, p < i → t p < n
  inj : ∀ p q, p < i → q < i → t p = t q → p = q
theorem Give.onto {t : Nat → Nat} (h : Give n n t) {k : Nat} (hk : k < n) : ∃ p, p < n ∧ t p = k := by
  refine Classical.byContradiction fun hc => ?_
  have hne : ∀ p, p < n → t p ≠ k := fun p hp e => hc ⟨p, hp, e⟩
  have := pigeon (n := n) (m := n - 1) (fun p => if t p < k then t p else t p - 1) (fun p hp => by
    have h1 := h.lt p hp
    have h2 := hne p hp
    split <;> omega) (fun p q hp hq e => by
    have h1 := hne p hp
    have h2 := hne q hq
    refine h.inj p q hp hq ?_
    split at e <;> split at e <;> omega)
  omega
theorem Give.sum {t : Nat → Nat} (h : Give n n t) (f : Nat → Int) : sm (fun p => f (t p)) n = sm f n := by
  have hp : ((List.range n).map t).Perm (List.range n) := by
    have hnd : ((List.range n).map t).Nodup := by
      unfold List.Nodup
      rw [List.pairwise_map]
      exact List.Pairwise.imp_of_mem (fun ha hb hne e => hne (h.inj _ _ (List.mem_range.1 ha) (List.mem_range.1 hb) e)) (List.nodup_range (n := n))
    rw [List.perm_iff_count]
    intro x
    rw [List.Nodup.count hnd, List.Nodup.count List.nodup_range]
    have : x ∈ (List.range n).map t ↔ x ∈ List.range n := by
      simp only [List.mem_map, List.mem_range]
      constructor
      · rintro ⟨p, hp, rfl⟩; exact h.lt p hp
      · intro hx; exact h.onto hx
    simp only [this]
  rw [sm_list, sm_list]
  have := lsum_perm (hp.map f)
  rwa [List.map_map] at this
/-- the least cost of all -/
structure IsLeast (n : Nat) (C : Nat → Nat → Int) (m : Int) : Prop where
  is : ∃ t, Give n n t ∧ sm (fun p => C p (t p)) n = m
  all : ∀ t, Give n n t → m ≤ sm (fun p => C p (t p)) n
theorem IsLeast.uniq {m m' : Int} (h : IsLeast n C m) (h' : IsLeast n C m') : m = m' := by
  obtain ⟨t, h1, h2⟩ := h.is
  obtain ⟨t', g1, g2⟩ := h'.is
  have := h.all t' g1
  have := h'.all t h1
  omega
/-- whom the solver gives what -/
structure Gives (n : Nat) (b : Nat → Nat) (t : Nat → Nat) : Prop where
  to : ∀ k, 1 ≤ k → k ≤ n → t (b k - 1) = k - 1
theorem Got.gives {b : Nat → Nat} {u v : Nat → Int} {t : Nat → Nat} (h : Got n n C b u v) (ht : Gives n b t) : Give n n t ∧ sm (fun p => C p (t p)) n = sm (fun p => u (p + 1) + v (p + 1)) n ∧ IsLeast n C (sm (fun p => C p (t p)) n) := by
  have hcol : ∀ p, p < n → 1 ≤ t p + 1 ∧ t p + 1 ≤ n ∧ b (t p + 1) = p + 1 := fun p hp => by
    obtain ⟨k, k1, k2, k3⟩ := h.mat.all (p + 1) (by omega) (by omega)
    have := ht.to k k1 k2
    rw [k3, Nat.add_sub_cancel] at this
    rw [this, show k - 1 + 1 = k from by omega]
    exact ⟨k1, k2, k3⟩
  have hg : Give n n t := ⟨fun p hp => by have := hcol p hp; omega, fun p q hp hq e => by
    have h1 := (hcol p hp).2.2
    have h2 := (hcol q hq).2.2
    rw [e] at h1
    omega⟩
  have hsum : ∀ t', Give n n t' → sm (fun p => u (p + 1) + v (t' p + 1)) n = sm (fun p => u (p + 1) + v (p + 1)) n := fun t' ht' => by
    rw [sm_add, sm_add]
    rw [ht'.sum (fun k => v (k + 1))]
  have heq : sm (fun p => C p (t p)) n = sm (fun p => u (p + 1) + v (p + 1)) n := by
    rw [← hsum t hg]
    refine sm_congr n fun p hp => ?_
    obtain ⟨h1, h2, h3⟩ := hcol p hp
    have := h.pri.tight (t p + 1) h1 h2 (by omega)
    rw [h3] at this
    simp at this
    omega
  refine ⟨hg, heq, ⟨t, hg, rfl⟩, fun t' ht' => ?_⟩
  rw [heq, ← hsum t' ht']
  refine sm_le n fun p hp => ?_
  have := h.pri.feas (p + 1) (t' p + 1) (by omega) (by omega) (by omega) (by have := ht'.lt p hp; omega)
  simpa using this
/-- the cost of a row of jobs: that of its first i; none, if they are none -/
def costU (C : Nat → Nat → Int) (n : Nat) (T : List Int) : Nat → Option Int
  | 0 => some 0
  | i + 1 => (costU C n T i).bind fun s => if 0 ≤ T.getD i 0 ∧ T.getD i 0 < n ∧ T.getD i 0 ∉ T.take i then some (s + C i (T.getD i 0).toNat) else none
theorem costU_ok {T : List Int} {s : Int} {k : Int} (h : costU C n T i = some s) (hk : T[i]? = some k) (h0 : 0 ≤ k) (h1 : k < n) (h2 : k ∉ T.take i) : costU C n T (i + 1) = some (s + C i k.toNat) := by
  have e : T.getD i 0 = k := by rw [List.getD_eq_getElem?_getD, hk]; rfl
  rw [costU, h, Option.bind_some, e, if_pos ⟨h0, h1, h2⟩]
theorem costU_bad {T : List Int} {s : Int} {k : Int} (h : costU C n T i = some s) (hk : T[i]? = some k) (hb : ¬ (0 ≤ k ∧ k < n ∧ k ∉ T.take i)) : costU C n T (i + 1) = none := by
  have e : T.getD i 0 = k := by rw [List.getD_eq_getElem?_getD, hk]; rfl
  rw [costU, h, Option.bind_some, e, if_neg hb]
theorem costU_none {T : List Int} (h : costU C n T i = none) : ∀ j, i ≤ j → costU C n T j = none
  | 0, hj => by
    obtain rfl : i = 0 := by omega
    exact h
  | j + 1, hj => by
    by_cases e : i = j + 1
    · rw [← e]; exact h
    · rw [costU, costU_none h j (by omega)]; rfl
/-- what the document's CostOf and the program's Cost answer -/
def costE (C : Nat → Nat → Int) (n : Nat) (T : List Int) : Option Int := if T.length = n then costU C n T n else none
/-- what a giving costs, as a row -/
def rowT (t : Nat → Nat) (n : Nat) : List Int := (List.range n).map fun p => (t p : Int)
theorem rowT_at {t : Nat → Nat} {p : Nat} (h : p < n) : (rowT t n)[p]? = some (t p : Int) := by
  unfold rowT
  rw [List.getElem?_map, List.getElem?_range h]; rfl
theorem rowT_cost {t : Nat → Nat} (h : Give n n t) : ∀ i, i ≤ n → costU C n (rowT t n) i = some (sm (fun p => C p (t p)) i)
  | 0, _ => rfl
  | i + 1, hi => by
    rw [costU_ok (rowT_cost h i (by omega)) (rowT_at (show i < n by omega)) (by omega) (by have := h.lt i (by omega); omega) (fun hm => ?_)]
    · rfl
    · obtain ⟨q, hq, e⟩ := List.getElem_of_mem hm
      have hqi : q < i := by simp at hq; omega
      have e2 : (rowT t n)[q]? = some (t i : Int) := by
        rw [List.getElem_take] at e
        rw [← e]
        exact List.getElem?_eq_getElem _
      rw [rowT_at (show q < n by omega)] at e2
      have := h.inj q i (by omega) (by omega) (by have := Option.some.inj e2; omega)
      omega
theorem rowT_costE {t : Nat → Nat} (h : Give n n t) : costE C n (rowT t n) = some (sm (fun p => C p (t p)) n) := by
  rw [costE, if_pos (by simp [rowT]), rowT_cost h n (Nat.le_refl _)]
/-- sets of jobs that are taken by the first i, and what that costs -/
inductive Way (n : Nat) (C : Nat → Nat → Int) : Nat → Nat → Int → Prop where
  | zero : Way n C 0 0 0
  | step {i s : Nat} {x : Int} {k : Nat} : Way n C i s x → k < n → s.testBit k = false → Way n C (i + 1) (s + 2 ^ k) (x + C i k)
theorem even_succ {q : Nat} (h : q % 2 = 0) (m : Nat) : (q + 1).testBit m = (q.testBit m || decide (m = 0)) := by
  cases m with
  | zero => simp [Nat.testBit_zero]; omega
  | succ m =>
    rw [Nat.testBit_succ, Nat.testBit_succ, show (q + 1) / 2 = q / 2 from by omega]
    simp
theorem add_bit {s k : Nat} (h : s.testBit k = false) (j : Nat) : (s + 2 ^ k).testBit j = (s.testBit j || decide (j = k)) := by
  have hq : s / 2 ^ k % 2 = 0 := by
    rw [Nat.testBit_eq_decide_div_mod_eq] at h
    simp at h
    omega
  have hr : s % 2 ^ k < 2 ^ k := Nat.mod_lt _ (Nat.two_pow_pos k)
  have e1 : s = 2 ^ k * (s / 2 ^ k) ||| s % 2 ^ k := by
    rw [← Nat.two_pow_add_eq_or_of_lt hr, Nat.div_add_mod]
  have e2 : s + 2 ^ k = 2 ^ k * (s / 2 ^ k + 1) ||| s % 2 ^ k := by
    rw [← Nat.two_pow_add_eq_or_of_lt hr, Nat.mul_add, Nat.mul_one]
    have := Nat.div_add_mod s (2 ^ k)
    omega
  rw [e2]
  conv => rhs; rw [e1]
  rw [Nat.testBit_or, Nat.testBit_or, Nat.testBit_two_pow_mul, Nat.testBit_two_pow_mul, even_succ hq]
  by_cases hjk : j = k
  · subst hjk; simp
  · by_cases hlt : k ≤ j
    · have : ¬ j - k = 0 := by omega
      simp [hjk, this]
    · simp [hjk, hlt]
theorem Way.give {s : Nat} {x : Int} (h : Way n C i s x) : ∃ t, Give n i t ∧ (∀ j, s.testBit j = true ↔ ∃ p, p < i ∧ t p = j) ∧ x = sm (fun p => C p (t p)) i := by
  induction h with
  | zero => exact ⟨fun _ => 0, ⟨fun p h => by omega, fun p q h => by omega⟩, fun j => by simp, rfl⟩
  | @step i s x k hw hk hb ih =>
    obtain ⟨t, h1, h2, h3⟩ := ih
    have hno : ∀ p, p < i → t p ≠ k := fun p hp e => by
      have := (h2 k).2 ⟨p, hp, e⟩
      rw [hb] at this; cases this
    have ht : ∀ p, p < i → (fun p => if p = i then k else t p) p = t p := fun p hp => by simp only; rw [if_neg (by omega)]
    refine ⟨fun p => if p = i then k else t p, ⟨fun p hp => ?_, fun p q hp hq e => ?_⟩, fun j => ?_, ?_⟩
    · split
      · exact hk
      · exact h1.lt p (by omega)
    · by_cases ep : p = i
      · by_cases eq : q = i
        · omega
        · rw [if_pos ep, if_neg eq] at e
          exact absurd e.symm (hno q (by omega))
      · by_cases eq : q = i
        · rw [if_neg ep, if_pos eq] at e
          exact absurd e (hno p (by omega))
        · rw [if_neg ep, if_neg eq] at e
          exact h1.inj p q (by omega) (by omega) e
    · rw [add_bit hb]
      simp only [Bool.or_eq_true, decide_eq_true_eq, h2]
      constructor
      · rintro (⟨p, hp, e⟩ | e)
        · exact ⟨p, by omega, by rw [if_neg (by omega)]; exact e⟩
        · exact ⟨i, by omega, by rw [if_pos rfl]; exact e.symm⟩
      · rintro ⟨p, hp, e⟩
        by_cases ep : p = i
        · rw [if_pos ep] at e; exact .inr e.symm
        · rw [if_neg ep] at e; exact .inl ⟨p, by omega, e⟩
    · rw [sm, h3]
      have e1 : sm (fun p => C p (t p)) i = sm (fun p => C p (if p = i then k else t p)) i := sm_congr i fun p hp => by rw [if_neg (by omega)]
      rw [e1]
      simp only [if_pos]
theorem Give.way (C : Nat → Nat → Int) {t : Nat → Nat} : ∀ i, Give n i t → ∃ s, Way n C i s (sm (fun p => C p (t p)) i) ∧ ∀ j, s.testBit j = true ↔ ∃ p, p < i ∧ t p = j
  | 0, _ => ⟨0, .zero, fun j => by simp⟩
  | i + 1, h => by
    obtain ⟨s, h1, h2⟩ := Give.way C i ⟨fun p hp => h.lt p (by omega), fun p q hp hq => h.inj p q (by omega) (by omega)⟩
    have hb : s.testBit (t i) = false := by
      cases hc : s.testBit (t i) with
      | false => rfl
      | true =>
        obtain ⟨p, hp, e⟩ := (h2 _).1 hc
        have := h.inj p i (by omega) (by omega) e
        omega
    refine ⟨s + 2 ^ t i, .step h1 (h.lt i (by omega)) hb, fun j => ?_⟩
    rw [add_bit hb]
    simp only [Bool.or_eq_true, decide_eq_true_eq, h2]
    constructor
    · rintro (⟨p, hp, e⟩ | e)
      · exact ⟨p, by omega, e⟩
      · exact ⟨i, by omega, e.symm⟩
    · rintro ⟨p, hp, e⟩
      by_cases ep : p = i
      · subst ep; exact .inr e.symm
      · exact .inl ⟨p, by omega, e⟩
theorem Way.lt {s : Nat} {x : Int} (h : Way n C i s x) : s < 2 ^ n := by
  obtain ⟨t, h1, h2, _⟩ := h.give
  refine Nat.lt_pow_two_of_testBit _ fun j hj => ?_
  cases hc : s.testBit j with
  | false => rfl
  | true =>
    obtain ⟨p, hp, e⟩ := (h2 j).1 hc
    have := h1.lt p hp
    omega
theorem Way.full {s : Nat} {x : Int} (h : Way n C n s x) : s = 2 ^ n - 1 := by
  obtain ⟨t, h1, h2, _⟩ := h.give
  refine Nat.eq_of_testBit_eq fun j => ?_
  rw [Nat.testBit_two_pow_sub_one]
  by_cases hj : j < n
  · rw [(h2 j).2 (h1.onto hj)]; simp [hj]
  · cases hc : s.testBit j with
    | false => simp [hj]
    | true =>
      obtain ⟨p, hp, e⟩ := (h2 j).1 hc
      have := h1.lt p hp
      omega
/-- what the table of sets holds behind i rows -/
structure Best (n : Nat) (C : Nat → Nat → Int) (i : Nat) (B : Nat → Option Int) : Prop where
  has : ∀ s m, B s = some m → Way n C i s m ∧ ∀ x, Way n C i s x → m ≤ x
  hasnt : ∀ s, B s = none → ∀ x, ¬ Way n C i s x
theorem Best.least {B : Nat → Option Int} (h : Best n C n B) {s : Nat} {m : Int} (hs : B s = some m) : IsLeast n C m := by
  obtain ⟨h1, h2⟩ := h.has s m hs
  obtain ⟨t, g1, _, g3⟩ := h1.give
  refine ⟨⟨t, g1, g3.symm⟩, fun t' ht' => ?_⟩
  obtain ⟨s', w', _⟩ := ht'.way C n
  have e : s' = s := by rw [w'.full, h1.full]
  rw [e] at w'
  exact h2 _ w'
theorem Best.full {B : Nat → Option Int} (h : Best n C n B) : ∃ m, B (2 ^ n - 1) = some m := by
  cases hb : B (2 ^ n - 1) with
  | some m => exact ⟨m, rfl⟩
  | none =>
    obtain ⟨s', w', _⟩ := Give.way (n := n) C (t := fun p => p) n ⟨fun p h => h, fun p q _ _ e => e⟩
    rw [w'.full] at w'
    exact absurd w' (h.hasnt _ hb _)
end Go.Proofs.Ytjmpfkolpgbebaa.As
