/- Plain facts: work for several hands: loads, the greatest of them, the best way. -/
import Derived.Test.YtfjoakhcgpckgaaBase
namespace Go.Proofs.Ytfjoakhcgpckgaa.Wk
set_option linter.unusedVariables false
/-- the greatest of the first m, none below 0 -/
def mx (f : Nat → Int) : Nat → Int
  | 0 => 0
  | m + 1 => max (mx f m) (f m)
theorem mx_nonneg (f : Nat → Int) : ∀ m, 0 ≤ mx f m
  | 0 => Int.le_refl _
  | m + 1 => by have := mx_nonneg f m; unfold mx; omega
theorem le_mx {f : Nat → Int} : ∀ {m i : Nat}, i < m → f i ≤ mx f m
  | m + 1, i, h => by
    unfold mx
    rcases Nat.lt_or_ge i m with h1 | h1
    · have := le_mx (f := f) h1; omega
    · obtain rfl : i = m := by omega
      omega
theorem mx_le {f : Nat → Int} {v : Int} (h0 : 0 ≤ v) : ∀ {m : Nat}, (∀ i, i < m → f i ≤ v) → mx f m ≤ v
  | 0, _ => h0
  | m + 1, h => by
    have h1 := mx_le h0 (m := m) fun i hi => h i (by omega)
    have h2 := h m (by omega)
    unfold mx; omega
theorem mx_mono {f g : Nat → Int} {m : Nat} (h : ∀ i, i < m → f i ≤ g i) : mx f m ≤ mx g m :=
  mx_le (mx_nonneg g m) fun i hi => Int.le_trans (h i hi) (le_mx hi)
theorem mx_congr {f g : Nat → Int} {m : Nat} (h : ∀ i, i < m → f i = g i) : mx f m = mx g m := by
  have h1 := mx_mono fun i hi => Int.le_of_eq (h i hi)
  have h2 := mx_mono fun i hi => Int.le_of_eq (h i hi).symm
  omega
/-- one more for hand a -/
def put (f : Nat → Int) (a : Nat) (x : Int) : Nat → Int := fun i => if i = a then f a + x else f i
theorem put_ge {f : Nat → Int} {a : Nat} {x : Int} (hx : 0 ≤ x) (i : Nat) : f i ≤ put f a x i := by
  unfold put; split
  · subst i; omega
  · omega
theorem put_back (f : Nat → Int) (a : Nat) (x : Int) : put (put f a x) a (-x) = f := by
  funext i; unfold put; split
  · subst i; simp; omega
  · rfl
/-- all of D to the hands aw -/
def ld (f : Nat → Int) : List Int → List Nat → (Nat → Int)
  | x :: D, a :: aw => ld (put f a x) D aw
  | _, _ => f
theorem ld_ge {D : List Int} (hD : ∀ x, x ∈ D → 0 ≤ x) : ∀ (f : Nat → Int) (aw : List Nat) (i : Nat), f i ≤ ld f D aw i := by
  induction D with
  | nil => intro f aw i; exact Int.le_refl _
  | cons x D ih =>
    intro f aw i
    cases aw with
    | nil => exact Int.le_refl _
    | cons a aw => exact Int.le_trans (put_ge (hD x (by simp)) i) (ih (fun y hy => hD y (by simp [hy])) _ _ _)
/-- a way to give the jobs to m hands -/
def Way (m : Nat) (D : List Int) (aw : List Nat) : Prop := aw.length = D.length ∧ ∀ a, a ∈ aw → a < m
/-- r: the best of best and all ways from f on -/
structure Bst (m : Nat) (f : Nat → Int) (D : List Int) (best r : Int) : Prop where
  le : r ≤ best
  all : ∀ aw, Way m D aw → r ≤ mx (ld f D aw) m
  is : r = best ∨ ∃ aw, Way m D aw ∧ r = mx (ld f D aw) m
theorem Bst.uniq {m : Nat} {f : Nat → Int} {D : List Int} {best r r' : Int} (h : Bst m f D best r) (h' : Bst m f D best r') : r = r' := by
  have key : ∀ {r r'}, Bst m f D best r → Bst m f D best r' → r ≤ r' := fun h h' => by
    rcases h'.is with e | ⟨aw, hw, e⟩
    · rw [e]; exact h.le
    · rw [e]; exact h.all aw hw
  have h1 := key h h'
  have h2 := key h' h
  omega
theorem Bst.cut {m : Nat} {f : Nat → Int} {D : List Int} {best : Int} (hD : ∀ x, x ∈ D → 0 ≤ x) (h : best ≤ mx f m) : Bst m f D best best :=
  ⟨Int.le_refl _, fun aw _ => Int.le_trans h (mx_mono fun i _ => ld_ge hD f aw i), .inl rfl⟩
theorem way_nil {m : Nat} {aw : List Nat} (h : Way m [] aw) : aw = [] := List.eq_nil_of_length_eq_zero h.1
theorem Bst.nil {m : Nat} {f : Nat → Int} {best : Int} : Bst m f [] best (min best (mx f m)) :=
  ⟨by omega, fun aw h => by rw [way_nil h]; show _ ≤ mx f m; omega, by
    by_cases h : best ≤ mx f m
    · left; omega
    · right; exact ⟨[], ⟨rfl, fun a h => by cases h⟩, by show _ = mx f m; omega⟩⟩
/-- the first k hands for the next job are tried -/
structure Trd (m : Nat) (f : Nat → Int) (x : Int) (D : List Int) (best : Int) (k : Nat) (r : Int) : Prop where
  le : r ≤ best
  all : ∀ a aw, a < k → Way m (x :: D) (a :: aw) → r ≤ mx (ld (put f a x) D aw) m
  is : r = best ∨ ∃ aw, Way m (x :: D) aw ∧ r = mx (ld f (x :: D) aw) m
theorem Trd.start {m : Nat} {f : Nat → Int} {x : Int} {D : List Int} {best : Int} : Trd m f x D best 0 best := ⟨Int.le_refl _, fun a aw h => by omega, .inl rfl⟩
theorem Trd.step {m : Nat} {f : Nat → Int} {x : Int} {D : List Int} {best r r' : Int} {k : Nat} (h : Trd m f x D best k r) (hk : k < m) (hb : Bst m (put f k x) D r r') : Trd m f x D best (k + 1) r' := by
  refine ⟨Int.le_trans hb.le h.le, fun a aw ha hw => ?_, ?_⟩
  · rcases Nat.lt_or_ge a k with h1 | h1
    · exact Int.le_trans hb.le (h.all a aw h1 hw)
    · obtain rfl : a = k := by omega
      exact hb.all aw ⟨by have := hw.1; simpa using this, fun b hb => hw.2 b (by simp [hb])⟩
  · rcases hb.is with e | ⟨aw, hw, e⟩
    · rcases h.is with e2 | ⟨aw, hw, e2⟩
      · left; omega
      · exact .inr ⟨aw, hw, by omega⟩
    · exact .inr ⟨k :: aw, ⟨by simp [hw.1], fun b hb => by
        rcases List.mem_cons.1 hb with rfl | hb
        · exact hk
        · exact hw.2 b hb⟩, e⟩
theorem Trd.done {m : Nat} {f : Nat → Int} {x : Int} {D : List Int} {best r : Int} (h : Trd m f x D best m r) : Bst m f (x :: D) best r := by
  refine ⟨h.le, fun aw hw => ?_, h.is⟩
  cases aw with
  | nil => have := hw.1; simp at this
  | cons a aw => exact h.all a aw (hw.2 a (by simp)) hw
/-- two hands change places -/
def sw (j k : Nat) (i : Nat) : Nat := if i = j then k else if i = k then j else i
theorem sw_sw (j k i : Nat) : sw j k (sw j k i) = i := by
  unfold sw
  by_cases h1 : i = j
  · subst h1
    rw [if_pos rfl]
    by_cases h2 : k = i
    · rw [if_pos h2]; exact h2
    · rw [if_neg h2, if_pos rfl]
  · rw [if_neg h1]
    by_cases h2 : i = k
    · subst h2; rw [if_pos rfl, if_pos rfl]
    · rw [if_neg h2, if_neg h1, if_neg h2]
theorem sw_lt {j k i m : Nat} (hj : j < m) (hk : k < m) (hi : i < m) : sw j k i < m := by
  unfold sw; split; · exact hk
  split; · exact hj
  exact hi
theorem put_sw (f : Nat → Int) (j k a : Nat) (x : Int) : put (fun i => f (sw j k i)) (sw j k a) x = fun i => put f a x (sw j k i) := by
  funext i
  unfold put
  by_cases h : i = sw j k a
  · subst h
    simp only [sw_sw, if_true]
  · rw [if_neg h, if_neg (fun e => h (by rw [← e, sw_sw]))]
theorem ld_sw (j k : Nat) : ∀ (D : List Int) (f : Nat → Int) (aw : List Nat), ld (fun i => f (sw j k i)) D (aw.map (sw j k)) = fun i => ld f D aw (sw j k i)
  | [], f, aw => by cases aw <;> rfl
  | x :: D, f, [] => rfl
  | x :: D, f, a :: aw => by
    show ld (put (fun i => f (sw j k i)) (sw j k a) x) D (aw.map (sw j k)) = _
    rw [put_sw, ld_sw j k D]
    rfl
theorem mx_sw {f : Nat → Int} {j k m : Nat} (hj : j < m) (hk : k < m) : mx (fun i => f (sw j k i)) m = mx f m := by
  have h1 : mx (fun i => f (sw j k i)) m ≤ mx f m := mx_le (mx_nonneg _ _) fun i hi => le_mx (f := f) (sw_lt hj hk hi)
  have h2 : mx f m ≤ mx (fun i => f (sw j k i)) m := mx_le (mx_nonneg _ _) fun i hi => by
    have := le_mx (f := fun i => f (sw j k i)) (sw_lt hj hk hi)
    simpa [sw_sw] using this
  omega
/-- a hand that has worked aw long aw an earlier one need not be tried -/
theorem Trd.skip {m : Nat} {f : Nat → Int} {x : Int} {D : List Int} {best r : Int} {j k : Nat} (h : Trd m f x D best k r) (hjk : j < k) (hk : k < m) (he : f j = f k) : Trd m f x D best (k + 1) r := by
  refine ⟨h.le, fun a aw ha hw => ?_, h.is⟩
  rcases Nat.lt_or_ge a k with h1 | h1
  · exact h.all a aw h1 hw
  · obtain rfl : a = k := by omega
    have e1 : (fun i => f (sw j a i)) = f := by
      funext i
      unfold sw
      by_cases h2 : i = j
      · subst h2; rw [if_pos rfl]; exact he.symm
      · rw [if_neg h2]
        by_cases h3 : i = a
        · subst h3; rw [if_pos rfl]; exact he
        · rw [if_neg h3]
    have e2 : sw j a a = j := by unfold sw; rw [if_neg (by omega), if_pos rfl]
    have e3 := ld_sw j a D (put f a x) aw
    rw [← put_sw, e1, e2] at e3
    have e4 := mx_sw (f := ld (put f a x) D aw) (m := m) (Nat.lt_trans hjk hk) hk
    rw [← e3] at e4
    rw [← e4]
    refine h.all j _ hjk ⟨by have := hw.1; simpa using this, fun b hb => ?_⟩
    rcases List.mem_cons.1 hb with rfl | hb
    · omega
    · obtain ⟨c, hc, rfl⟩ := List.mem_map.1 hb
      exact sw_lt (by omega) hk (hw.2 c (by simp [hc]))
/-- two that start from bests that some way gives, or that none beats -/
theorem Bst.same {m : Nat} {f : Nat → Int} {D : List Int} {b b' r r' : Int} (h : Bst m f D b r) (h' : Bst m f D b' r') (hb : ∃ aw, Way m D aw ∧ b = mx (ld f D aw) m) (hb' : b < b') : r = r' := by
  have a1 : ∃ aw, Way m D aw ∧ r = mx (ld f D aw) m := by
    rcases h.is with e | e
    · rw [e]; exact hb
    · exact e
  obtain ⟨aw0, w0, e0⟩ := hb
  have a2 : ∃ aw, Way m D aw ∧ r' = mx (ld f D aw) m := by
    rcases h'.is with e | e
    · have := h'.all aw0 w0; omega
    · exact e
  obtain ⟨aw1, w1, e1⟩ := a1
  obtain ⟨aw2, w2, e2⟩ := a2
  have := h.all aw2 w2
  have := h'.all aw1 w1
  omega
/-- jobs given in whatever order -/
def ldP (f : Nat → Int) : List (Nat × Int) → (Nat → Int)
  | [] => f
  | p :: l => ldP (put f p.1 p.2) l
theorem ld_ldP : ∀ (D : List Int) (aw : List Nat) (f : Nat → Int), ld f D aw = ldP f (aw.zip D)
  | [], aw, f => by cases aw <;> rfl
  | x :: D, [], f => rfl
  | x :: D, a :: aw, f => ld_ldP D aw (put f a x)
theorem put_comm (f : Nat → Int) (a b : Nat) (x y : Int) : put (put f a x) b y = put (put f b y) a x := by
  funext i
  unfold put
  by_cases h1 : i = b
  · subst h1
    by_cases h2 : i = a
    · subst h2; simp; omega
    · simp [h2]
  · by_cases h2 : i = a
    · subst h2; simp [h1]
    · simp [h1, h2]
theorem ldP_perm {l l' : List (Nat × Int)} (h : l.Perm l') : ∀ f, ldP f l = ldP f l' := by
  induction h with
  | nil => intro f; rfl
  | cons x _ ih => intro f; exact ih _
  | swap x y l => intro f; show ldP (put (put f _ _) _ _) l = ldP (put (put f _ _) _ _) l; rw [put_comm]
  | trans _ _ ih1 ih2 => intro f; rw [ih1, ih2]
theorem ldP_snoc (f : Nat → Int) : ∀ (l : List (Nat × Int)) (p : Nat × Int), ldP f (l ++ [p]) = put (ldP f l) p.1 p.2
  | [], p => rfl
  | q :: l, p => ldP_snoc (put f q.1 q.2) l p
/-- loads stay small -/
theorem ldP_bound {c : Int} : ∀ (l : List (Nat × Int)) (f : Nat → Int) (b : Int), (∀ i, 0 ≤ f i ∧ f i ≤ b) → (∀ p, p ∈ l → 0 ≤ p.2 ∧ p.2 ≤ c) → 0 ≤ c → ∀ i, 0 ≤ ldP f l i ∧ ldP f l i ≤ b + l.length * c
  | [], f, b, h, _, hc, i => by have := h i; simp [ldP]; omega
  | p :: l, f, b, h, hp, hc, i => by
    have h1 := hp p (by simp)
    have := ldP_bound l (put f p.1 p.2) (b + c) (fun i => by
      have h2 := h i
      have h3 := h p.1
      unfold put; split <;> omega) (fun q hq => hp q (by simp [hq])) hc i
    simp only [ldP, List.length_cons]
    push_cast
    rw [Int.add_mul]
    omega
/-- the first hand of those that have least -/
structure FMin (f : Nat → Int) (m k : Nat) : Prop where
  lt : k < m
  le : ∀ j, j < m → f k ≤ f j
  fst : ∀ j, j < k → f k < f j
theorem FMin.uniq {f : Nat → Int} {m k k' : Nat} (h : FMin f m k) (h' : FMin f m k') : k = k' := by
  rcases Nat.lt_trichotomy k k' with h1 | h1 | h1
  · have := h'.fst k h1; have := h.le k' h'.lt; omega
  · exact h1
  · have := h.fst k' h1; have := h'.le k h.lt; omega
end Go.Proofs.Ytfjoakhcgpckgaa.Wk
