/- Plain: a round of the search for a job, and the turning of the way that it found. -/
import Derived.Test.YtjmpfkolpgbebaaAssignM
namespace Go.Proofs.Ytjmpfkolpgbebaa.As
set_option linter.unusedVariables false
variable {n i : Nat} {C : Nat → Nat → Int} {z : Int} {b : Nat → Nat} {u v low : Nat → Int} {fr : Nat → Nat} {seen : Nat → Bool} {a : Nat}
theorem se_same (seen : Nat → Bool) (a : Nat) : se seen a a = true := by simp [se]
theorem se_of {k : Nat} (h : seen k = true) : se seen a k = true := by unfold se; split <;> simp [h]
theorem se_old {k : Nat} (h : se seen a k = true) : k = a ∨ seen k = true := by
  unfold se at h
  split at h
  · rename_i e; exact .inl e
  · exact .inr h
theorem se_not {k : Nat} (h : se seen a k = false) : k ≠ a ∧ seen k = false := by
  unfold se at h
  split at h
  · cases h
  · rename_i e; exact ⟨e, h⟩
/-- columns of the tree have different people -/
theorem Tree.diff (h : Tree n i C z b u v low fr seen a) (hb : b a ≠ 0) {k l : Nat} (hk : se seen a k = true) (hl : l ≤ n) (hkl : k ≠ l) : b k ≠ b l := fun e => by
  have hkn : k ≤ n ∧ b k ≠ 0 := by
    rcases se_old hk with rfl | hk
    · exact ⟨h.an, hb⟩
    · exact h.sn k hk
  by_cases hk0 : k = 0
  · subst hk0
    have := h.mat.le l (by omega) hl
    have := h.b0
    have := h.hi
    omega
  · by_cases hl0 : l = 0
    · subst hl0
      have := h.mat.le k (by omega) hkn.1
      have := h.b0
      have := h.hi
      omega
    · exact hkl (h.mat.inj k l (by omega) hkn.1 (by omega) hl e hkn.2)
theorem Tree.bound (h : Tree n i C z b u v low fr seen a) (hC : Fine n C) (hb : b a ≠ 0) {k : Nat} (h1 : 1 ≤ k) (h2 : k ≤ n) : -2000000000 ≤ over C b u v a k ∧ over C b u v a k ≤ 4000000000 := by
  have hp : b a ≤ n := by
    by_cases ha : a = 0
    · subst ha; have := h.b0; have := h.hi; omega
    · have := h.mat.le a (by omega) h.an; have := h.hi; omega
  have a1 := h.bu hC (b a) (by omega) hp
  have a2 := h.bv hC k h1 h2
  have a3 := hC.at' (p := b a) (k := k) (by omega) hp h1 h2
  unfold over
  omega
/-- what the look over the jobs gives -/
theorem Tree.lookd (h : Tree n i C z b u v low fr seen a) (hC : Fine n C) (hb : b a ≠ 0) {k : Nat} (h1 : 1 ≤ k) (h2 : k ≤ n) (hs : se seen a k = false) :
    (∀ j, se seen a j = true → lowQ C b u v low (se seen a) a (n + 1) k ≤ C (b j - 1) (k - 1) - u (b j) - v k) ∧ se seen a (frQ C b u v low fr (se seen a) a (n + 1) k) = true ∧ lowQ C b u v low (se seen a) a (n + 1) k = C (b (frQ C b u v low fr (se seen a) a (n + 1) k) - 1) (k - 1) - u (b (frQ C b u v low fr (se seen a) a (n + 1) k)) - v k := by
  obtain ⟨hka, hks⟩ := se_not hs
  have ho := h.bound hC hb h1 h2
  cases h0 : seen 0 with
  | false =>
    have hf := h.far h0 k h1 h2
    have ha : a = 0 := Classical.byContradiction fun e => by rw [h.root e] at h0; cases h0
    have hc : 1 ≤ k ∧ k < n + 1 ∧ se seen a k = false ∧ over C b u v a k < low k := ⟨h1, by omega, hs, by omega⟩
    rw [lowQ, if_pos hc, frQ, if_pos hc]
    refine ⟨fun j hj => ?_, se_same _ _, rfl⟩
    rcases se_old hj with rfl | hj
    · exact Int.le_refl _
    · have := (h.none ha).1 j; rw [this] at hj; cases hj
  | true =>
    obtain ⟨l1, l2, l3⟩ := h.lows h0 k h1 h2 hks
    by_cases hc : 1 ≤ k ∧ k < n + 1 ∧ se seen a k = false ∧ over C b u v a k < low k
    · rw [lowQ, if_pos hc, frQ, if_pos hc]
      refine ⟨fun j hj => ?_, se_same _ _, rfl⟩
      rcases se_old hj with rfl | hj
      · exact Int.le_refl _
      · have := l1 j hj; omega
    · rw [lowQ, if_neg hc, frQ, if_neg hc]
      refine ⟨fun j hj => ?_, se_of l2, l3⟩
      rcases se_old hj with rfl | hj
      · have : ¬ over C b u v j k < low k := fun e => hc ⟨h1, by omega, hs, e⟩
        unfold over at this
        omega
      · exact l1 j hj
theorem Tree.feasAll (h : Tree n i C z b u v low fr seen a) (h0 : seen 0 = true) {p k : Nat} (h1 : 1 ≤ p) (h2 : p ≤ i) (h3 : 1 ≤ k) (h4 : k ≤ n) : u p + v k ≤ C (p - 1) (k - 1) := by
  by_cases e : p = i
  · rw [e]; exact (h.ui h0).2 k h3 h4
  · exact h.feas p k h1 (by omega) h3 h4
theorem Tree.ble (h : Tree n i C z b u v low fr seen a) {k : Nat} (hk : k ≤ n) : b k ≤ i := by
  by_cases e : k = 0
  · rw [e, h.b0]; exact Nat.le_refl _
  · have := h.mat.le k (by omega) hk; omega
theorem Tree.step0 (h : Tree n i C z b u v low fr seen a) (hC : Fine n C) (hb : b a ≠ 0) {st : Int} {nx : Nat} (hL : Least (lowQ C b u v low (se seen a) a (n + 1)) (se seen a) (n + 1) st nx) : 1 ≤ nx ∧ nx ≤ n ∧ se seen a nx = false ∧ st = lowQ C b u v low (se seen a) a (n + 1) nx ∧ -2000000000 ≤ st ∧ st ≤ 4000000000 ∧ (seen 0 = true → 0 ≤ st) ∧ (seen 0 = false → -1000000000 ≤ st) := by
  obtain ⟨f, f1, f2, f3, f4⟩ := h.matI
  have hfs : se seen a f = false := by
    cases hc : se seen a f with
    | false => rfl
    | true =>
      rcases se_old hc with rfl | hc
      · exact absurd f3 hb
      · exact absurd f3 (h.sn f hc).2
  have hst := hL.all f f1 (by omega) hfs
  have hfo := h.bound hC hb f1 f2
  have hlf := (h.lookd hC hb f1 f2 hfs).1 a (se_same _ _)
  unfold over at hfo
  rcases hL.is with ⟨h1, h2⟩ | ⟨h1, h2, h3, h4⟩
  · omega
  · obtain ⟨q1, q2, q3⟩ := h.lookd hC hb h1 (by omega) h3
    have hj : ∀ j, se seen a j = true → 1 ≤ b j ∧ b j ≤ i ∧ b j ≤ n := fun j hj => by
      have : j ≤ n ∧ b j ≠ 0 := by
        rcases se_old hj with rfl | hj
        · exact ⟨h.an, hb⟩
        · exact h.sn j hj
      have := h.ble this.1
      have := h.hi
      omega
    obtain ⟨j1, j2, j3⟩ := hj _ q2
    have b1 := h.bu hC _ j1 j3
    have b2 := h.bv hC nx h1 (by omega)
    have b3 := hC.at' j1 j3 h1 (show nx ≤ n from by omega)
    refine ⟨h1, by omega, h3, h4, by omega, by omega, fun h0 => ?_, fun h0 => ?_⟩
    · have := h.feasAll h0 j1 j2 h1 (show nx ≤ n from by omega)
      omega
    · have ha : a = 0 := Classical.byContradiction fun e => by rw [h.root e] at h0; cases h0
      have hj0 : frQ C b u v low fr (se seen a) a (n + 1) nx = 0 := by
        rcases se_old q2 with e | e
        · rw [e]; exact ha
        · rw [(h.none ha).1] at e; cases e
      rw [hj0, h.b0] at q3 b3
      have := (h.none ha).2
      omega
theorem Tree.step (h : Tree n i C z b u v low fr seen a) (hC : Fine n C) (hb : b a ≠ 0) {st : Int} {nx : Nat} {u' v' low' : Nat → Int} (hL : Least (lowQ C b u v low (se seen a) a (n + 1)) (se seen a) (n + 1) st nx)
    (hM : Moved n b (se seen a) st u v (lowQ C b u v low (se seen a) a (n + 1)) u' v' low' (n + 1)) : Tree n i C z b u' v' low' (frQ C b u v low fr (se seen a) a (n + 1)) (se seen a) nx := by
  obtain ⟨n1, n2, n3, n4, n5, n6, n7, n8⟩ := h.step0 hC hb hL
  have hsn : ∀ k, se seen a k = true → k ≤ n ∧ b k ≠ 0 := fun k hk => by
    rcases se_old hk with rfl | hk
    · exact ⟨h.an, hb⟩
    · exact h.sn k hk
  have hse0 : se seen a 0 = true := by
    by_cases ha : a = 0
    · rw [ha]; exact se_same _ _
    · exact se_of (h.root ha)
  have hu : ∀ k, se seen a k = true → u' (b k) = u (b k) + st := fun k hk => hM.uin k (by have := (hsn k hk).1; omega) hk
  have hv : ∀ k, k ≤ n → v' k = if se seen a k = true then v k - st else v k := fun k hk => by
    rw [hM.v k]
    have : k < n + 1 := by omega
    simp [this]
  have hst : ∀ k, 1 ≤ k → se seen a k = true → seen 0 = true := fun k h1 hk => by
    by_cases ha : a = 0
    · rcases se_old hk with e | e
      · omega
      · rw [(h.none ha).1 k] at e; cases e
    · exact h.root ha
  -- one who is not in the tree keeps the price
  have huo : ∀ k, k ≤ n → se seen a k = false → u' (b k) = u (b k) := fun k hk hs => hM.uout (b k) fun j hj hsj => h.diff hb hsj hk (fun e => by rw [e, hs] at hsj; cases hsj)
  have hcase : ∀ p, (∃ j, se seen a j = true ∧ b j = p) ∨ u' p = u p := fun p => by
    by_cases hp : ∃ j, se seen a j = true ∧ b j = p
    · exact .inl hp
    · exact .inr (hM.uout p fun k _ hs e => hp ⟨k, hs, e⟩)
  have hfeas : ∀ p k, 1 ≤ p → p ≤ i → (p < i ∨ ∃ j, se seen a j = true ∧ b j = p) → 1 ≤ k → k ≤ n → u' p + v' k ≤ C (p - 1) (k - 1) := fun p k h1 h2 hp h3 h4 => by
    rw [hv k h4]
    cases hk : se seen a k with
    | true =>
      have hs0 := hst k h3 hk
      have hst0 := n7 hs0
      have hf := h.feasAll hs0 h1 h2 h3 h4
      rcases hcase p with ⟨j, hj, rfl⟩ | e
      · rw [hu j hj, if_pos rfl]; omega
      · rw [e, if_pos rfl]; omega
    | false =>
      rw [if_neg (by simp)]
      have hmin := hL.all k h3 (by omega) hk
      rcases hcase p with ⟨j, hj, rfl⟩ | e
      · have := (h.lookd hC hb h3 h4 hk).1 j hj
        rw [hu j hj]; omega
      · rw [e]
        rcases hp with hp | ⟨j, hj, rfl⟩
        · exact h.feas p k h1 hp h3 h4
        · have e2 := hu j hj
          have := (h.lookd hC hb h3 h4 hk).1 j hj
          omega
  exact {
    b0 := h.b0
    hi := h.hi
    mat := h.mat
    feas := fun p k h1 h2 h3 h4 => hfeas p k h1 (by omega) (.inl h2) h3 h4
    tight := fun k h1 h2 hbk => by
      have ht := h.tight k h1 h2 hbk
      rw [hv k h2]
      cases hk : se seen a k with
      | true => rw [hu k hk, if_pos rfl]; omega
      | false => rw [huo k h2 hk, if_neg (by simp)]; exact ht
    neg := fun k h1 h2 => by
      have hn := h.neg k h1 h2
      rw [hv k h2]
      cases hk : se seen a k with
      | true => have := n7 (hst k h1 hk); rw [if_pos rfl]; omega
      | false => rw [if_neg (by simp)]; exact hn
    free := fun k h1 h2 hbk => by
      rw [hv k h2]
      cases hk : se seen a k with
      | true => exact absurd hbk (hsn k hk).2
      | false => rw [if_neg (by simp)]; exact h.free k h1 h2 hbk
    new := fun p h1 h2 => by
      rw [hM.uout p fun k hk hs e => by have := h.ble (hsn k hs).1; omega]
      exact h.new p h1 h2
    an := n2
    as := n3
    sn := hsn
    root := fun _ => hse0
    none := fun e => by omega
    ui := fun _ => by
      have hui : u' i = u i + st := by have := hu 0 hse0; rwa [h.b0] at this
      refine ⟨?_, fun k h1 h2 => hfeas i k h.hi.1 (Nat.le_refl _) (.inr ⟨0, hse0, h.b0⟩) h1 h2⟩
      cases h0 : seen 0 with
      | true => have := (h.ui h0).1; have := n7 h0; omega
      | false =>
        have ha : a = 0 := Classical.byContradiction fun e => by rw [h.root e] at h0; cases h0
        have := (h.none ha).2
        have := n8 h0
        omega
    far := fun e => by rw [hse0] at e; cases e
    lows := fun _ k h1 h2 hk => by
      obtain ⟨l1, l2, l3⟩ := h.lookd hC hb h1 h2 hk
      have hvk : v' k = v k := by rw [hv k h2, hk, if_neg (by simp)]
      have hlk : low' k = lowQ C b u v low (se seen a) a (n + 1) k - st := by rw [hM.low k, if_pos ⟨by omega, hk⟩]
      refine ⟨fun j hj => ?_, l2, ?_⟩
      · have := l1 j hj
        rw [hu j hj, hvk, hlk]; omega
      · rw [hu _ l2, hvk, hlk]; omega
    zero := fun _ => by rw [hM.low nx, if_pos ⟨by omega, n3⟩]; omega
    rank := by
      obtain ⟨r, r1, r2⟩ := h.rank
      have hnx : nx ≠ a := (se_not n3).1
      refine ⟨fun k => if k = nx then r a + 1 else r k, fun k hk => ?_, fun k hk hk0 => ?_⟩
      · have hkx : k ≠ nx := fun e => by rw [e, n3] at hk; cases hk
        simp only [hkx, if_false, if_pos]
        rcases se_old hk with rfl | hk
        · omega
        · have := r1 k hk; omega
      · have hkx : k ≠ nx := fun e => by rw [e, n3] at hk; cases hk
        have hfk : frQ C b u v low fr (se seen a) a (n + 1) k = fr k := by
          rw [frQ, if_neg (fun hc => by rw [hk] at hc; cases hc.2.2.1)]
        have hkn := (hsn k hk).1
        have hold : seen (fr k) = true ∧ r (fr k) < r k ∧ u (b (fr k)) + v k = C (b (fr k) - 1) (k - 1) := by
          rcases se_old hk with rfl | hk'
          · have h0 := h.root hk0
            obtain ⟨l1, l2, l3⟩ := h.lows h0 k (by omega) hkn h.as
            have hz := h.zero hk0
            exact ⟨l2, r1 _ l2, by omega⟩
          · exact r2 k hk' hk0
        rw [hfk]
        have hfx : fr k ≠ nx := fun e => by have := se_of (a := a) hold.1; rw [e, n3] at this; cases this
        simp only [hkx, hfx, if_false]
        refine ⟨se_of hold.1, hold.2.1, ?_⟩
        rw [hu _ (se_of hold.1), hv k hkn, if_pos hk]
        have := hold.2.2
        omega
    v0 := by
      have e1 : u' i = u i + st := by have := hu 0 hse0; rwa [h.b0] at this
      have e2 : v' 0 = v 0 - st := by rw [hv 0 (by omega), if_pos hse0]
      have := h.v0
      omega }
/-- how many of the first q are not seen -/
def cu (seen : Nat → Bool) : Nat → Nat
  | 0 => 0
  | q + 1 => cu seen q + if seen q = true then 0 else 1
theorem cu_se (seen : Nat → Bool) (a : Nat) : ∀ q, seen a = false → cu (se seen a) q + (if a < q then 1 else 0) = cu seen q
  | 0, _ => rfl
  | q + 1, h => by
    have ih := cu_se seen a q h
    unfold cu
    by_cases e : q = a
    · subst e
      have h1 : ¬ q < q := by omega
      have h2 : q < q + 1 := by omega
      simp only [h1, if_false] at ih
      simp only [se_same, h, h2, if_true]
      simp
      omega
    · have hse : se seen a q = seen q := by rw [se, if_neg e]
      rw [hse]
      by_cases haq : a < q
      · have : a < q + 1 := by omega
        simp only [haq, this, if_true] at ih ⊢
        omega
      · have : ¬ a < q + 1 := by omega
        simp only [haq, this, if_false] at ih ⊢
        omega
theorem cu_se' {seen : Nat → Bool} {a q : Nat} (h : seen a = false) (ha : a < q) : cu (se seen a) q + 1 = cu seen q := by
  have := cu_se seen a q h
  rwa [if_pos ha] at this
/-- the way is being turned: column a has no one of its own -/
structure Turn (n i : Nat) (C : Nat → Nat → Int) (u v : Nat → Int) (fr : Nat → Nat) (seen : Nat → Bool) (r : Nat → Nat) (b0 b : Nat → Nat) (a : Nat) : Prop where
  an : a ≤ n
  le : ∀ k, k ≤ n → k ≠ a → b k ≤ i
  all : ∀ p, 1 ≤ p → p ≤ i → ∃ k, k ≤ n ∧ k ≠ a ∧ b k = p
  inj : ∀ k l, k ≤ n → l ≤ n → k ≠ a → l ≠ a → b k = b l → b k ≠ 0 → k = l
  tight : ∀ k, 1 ≤ k → k ≤ n → k ≠ a → b k ≠ 0 → u (b k) + v k = C (b k - 1) (k - 1)
  free : ∀ k, 1 ≤ k → k ≤ n → k ≠ a → b k = 0 → v k = 0
  old : ∀ k, seen k = true → r k < r a → b k = b0 k
  edge : a ≠ 0 → seen (fr a) = true ∧ r (fr a) < r a ∧ u (b0 (fr a)) + v a = C (b0 (fr a) - 1) (a - 1)
theorem Tree.turn (h : Tree n i C z b u v low fr seen a) (hb : b a = 0) : ∃ r, Turn n i C u v fr seen r b b a ∧ ∀ k, seen k = true → k ≠ 0 → seen (fr k) = true ∧ r (fr k) < r k ∧ u (b (fr k)) + v k = C (b (fr k) - 1) (k - 1) := by
  obtain ⟨r, r1, r2⟩ := h.rank
  have ha : a ≠ 0 := fun e => by have := h.b0; have := h.hi; rw [e] at hb; omega
  refine ⟨r, ⟨h.an, fun k hk _ => h.ble hk, fun p h1 h2 => ?_, fun k l hk hl _ _ e hk0 => ?_, fun k h1 h2 _ => h.tight k h1 h2, fun k h1 h2 _ => h.free k h1 h2, fun k _ _ => rfl, fun _ => ?_⟩, r2⟩
  · by_cases e : p = i
    · exact ⟨0, by omega, fun e => ha e.symm, by rw [h.b0, e]⟩
    · obtain ⟨k, k1, k2, k3⟩ := h.mat.all p h1 (by omega)
      exact ⟨k, k2, fun e => by rw [e, hb] at k3; omega, k3⟩
  · by_cases k0 : k = 0
    · subst k0
      by_cases l0 : l = 0
      · exact l0.symm
      · have := h.mat.le l (by omega) hl
        have := h.b0
        have := h.hi
        omega
    · by_cases l0 : l = 0
      · subst l0
        have := h.mat.le k (by omega) hk
        have := h.b0
        have := h.hi
        omega
      · exact h.mat.inj k l (by omega) hk (by omega) hl e hk0
  · have h0 := h.root ha
    obtain ⟨l1, l2, l3⟩ := h.lows h0 a (by omega) h.an h.as
    have hz := h.zero ha
    exact ⟨l2, r1 _ l2, by omega⟩
theorem Turn.step {r : Nat → Nat} {b0 : Nat → Nat} (h : Turn n i C u v fr seen r b0 b a) (hr : ∀ k, seen k = true → k ≠ 0 → seen (fr k) = true ∧ r (fr k) < r k ∧ u (b0 (fr k)) + v k = C (b0 (fr k) - 1) (k - 1)) (hs : ∀ k, seen k = true → k ≤ n ∧ b0 k ≠ 0) (ha : a ≠ 0) : Turn n i C u v fr seen r b0 (put b a (b (fr a))) (fr a) ∧ r (fr a) < r a ∧ fr a ≤ n := by
  obtain ⟨e1, e2, e3⟩ := h.edge ha
  have hfa : fr a ≠ a := fun e => by rw [e] at e2; omega
  have hfn := (hs _ e1).1
  have hbf := h.old _ e1 e2
  have hp : ∀ k, k ≠ a → put b a (b (fr a)) k = b k := fun k hk => by rw [put, if_neg hk]
  have hpa : put b a (b (fr a)) a = b (fr a) := by rw [put, if_pos rfl]
  refine ⟨⟨hfn, fun k hk hkf => ?_, fun p h1 h2 => ?_, fun k l hk hl hkf hlf e hk0 => ?_, fun k h1 h2 hkf hk0 => ?_, fun k h1 h2 hkf hk0 => ?_, fun k hk hkr => ?_, fun hf0 => hr _ e1 hf0⟩, e2, hfn⟩
  · by_cases e : k = a
    · rw [e, hpa]; exact h.le _ hfn hfa
    · rw [hp k e]; exact h.le k hk e
  · obtain ⟨k, k1, k2, k3⟩ := h.all p h1 h2
    by_cases e : k = fr a
    · exact ⟨a, h.an, fun e' => hfa e'.symm, by rw [hpa, ← e]; exact k3⟩
    · exact ⟨k, k1, e, by rw [hp k k2]; exact k3⟩
  · by_cases ek : k = a
    · by_cases el : l = a
      · rw [ek, el]
      · rw [ek, hpa, hp l el] at e
        rw [ek, hpa] at hk0
        exact absurd (h.inj _ _ hfn hl hfa el e hk0).symm hlf
    · by_cases el : l = a
      · rw [el, hpa, hp k ek] at e
        rw [hp k ek] at hk0
        exact absurd (h.inj _ _ hk hfn ek hfa e hk0) hkf
      · rw [hp k ek, hp l el] at e
        rw [hp k ek] at hk0
        exact h.inj k l hk hl ek el e hk0
  · by_cases e : k = a
    · rw [e, hpa, hbf]; exact e3
    · rw [hp k e] at hk0 ⊢
      exact h.tight k h1 h2 e hk0
  · by_cases e : k = a
    · rw [e, hpa, hbf] at hk0
      exact absurd hk0 (hs _ e1).2
    · rw [hp k e] at hk0
      exact h.free k h1 h2 e hk0
  · rw [hp k (fun e => by rw [e] at hkr; omega)]
    exact h.old k hk (by omega)
theorem Turn.done {r : Nat → Nat} {b0 : Nat → Nat} (h : Turn n i C u v fr seen r b0 b 0) {a' : Nat} (ht : Tree n i C z b0 u v low fr seen a') (ha : a' ≠ 0) (hC : Fine n C) (hz : -1000000000 * ((i : Int) - 1) ≤ z ∧ z ≤ 1000000000 * ((i : Int) - 1)) : Got n i C b u v := by
  have hs0 := ht.root ha
  refine ⟨⟨fun k h1 h2 => h.le k h2 (by omega), fun p h1 h2 => ?_, fun k l h1 h2 h3 h4 e hk0 => h.inj k l h2 h4 (by omega) (by omega) e hk0⟩, ⟨fun p k h1 h2 h3 h4 => ht.feasAll hs0 h1 h2 h3 h4, fun k h1 h2 => h.tight k h1 h2 (by omega), ht.neg, fun k h1 h2 => h.free k h1 h2 (by omega), ht.new⟩, fun p h1 h2 => ht.bu hC p h1 (by have := ht.hi; omega), ?_⟩
  · obtain ⟨k, k1, k2, k3⟩ := h.all p h1 h2
    exact ⟨k, by omega, k1, k3⟩
  · have := ht.bu hC i ht.hi.1 ht.hi.2
    have := ht.v0
    omega
end Go.Proofs.Ytjmpfkolpgbebaa.As
