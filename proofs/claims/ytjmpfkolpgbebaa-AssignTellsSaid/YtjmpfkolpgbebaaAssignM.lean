/- Plain: the cheapest way to give each of n people one job: prices, the tree of a search, the turning of a way; no program in sight. -/
namespace Go.Proofs.Ytjmpfkolpgbebaa.As
set_option linter.unusedVariables false
theorem nodup_len : ∀ {l l' : List Nat}, l.Nodup → (∀ x, x ∈ l → x ∈ l') → l.length ≤ l'.length
  | [], l', _, _ => Nat.zero_le _
  | x :: l, l', hn, hs => by
    rw [List.nodup_cons] at hn
    have h1 := hs x (by simp)
    have h2 := nodup_len (l := l) (l' := l'.erase x) hn.2 (fun y hy => by
      have : y ≠ x := fun e => hn.1 (by rw [← e]; exact hy)
      exact (List.mem_erase_of_ne this).2 (hs y (by simp [hy])))
    rw [List.length_erase_of_mem h1] at h2
    have h3 : 0 < l'.length := List.length_pos_of_mem h1
    simp only [List.length_cons]
    omega
/-- no n different numbers below m, where m is less -/
theorem pigeon {n m : Nat} (f : Nat → Nat) (h : ∀ k, k < n → f k < m) (hi : ∀ k l, k < n → l < n → f k = f l → k = l) : n ≤ m := by
  have h1 : ((List.range n).map f).Nodup := by
    unfold List.Nodup
    rw [List.pairwise_map]
    exact List.Pairwise.imp_of_mem (fun ha hb hne e => hne (hi _ _ (List.mem_range.1 ha) (List.mem_range.1 hb) e)) (List.nodup_range (n := n))
  have h2 := nodup_len (l' := List.range m) h1 (fun x hx => by
    simp only [List.mem_map, List.mem_range] at hx ⊢
    obtain ⟨a, ha, rfl⟩ := hx
    exact h a ha)
  simpa using h2
variable {n i : Nat} {C : Nat → Nat → Int} {M : Int}
/-- the costs are in their bounds -/
def Fine (n : Nat) (C : Nat → Nat → Int) : Prop := ∀ p k, p < n → k < n → -1000000000 ≤ C p k ∧ C p k ≤ 1000000000
theorem Fine.at' (h : Fine n C) {p k : Nat} (h1 : 1 ≤ p) (h2 : p ≤ n) (h3 : 1 ≤ k) (h4 : k ≤ n) : -1000000000 ≤ C (p - 1) (k - 1) ∧ C (p - 1) (k - 1) ≤ 1000000000 := h _ _ (by omega) (by omega)
/-- the first i people have a job each -/
structure Mat (n i : Nat) (b : Nat → Nat) : Prop where
  le : ∀ k, 1 ≤ k → k ≤ n → b k ≤ i
  all : ∀ p, 1 ≤ p → p ≤ i → ∃ k, 1 ≤ k ∧ k ≤ n ∧ b k = p
  inj : ∀ k l, 1 ≤ k → k ≤ n → 1 ≤ l → l ≤ n → b k = b l → b k ≠ 0 → k = l
theorem Mat.free {b : Nat → Nat} (h : Mat n i b) (hi : i < n) : ∃ k, 1 ≤ k ∧ k ≤ n ∧ b k = 0 := by
  refine Classical.byContradiction fun hc => ?_
  have hz : ∀ k, 1 ≤ k → k ≤ n → b k ≠ 0 := fun k h1 h2 e => hc ⟨k, h1, h2, e⟩
  have := pigeon (n := n) (m := i) (fun k => b (k + 1) - 1) (fun k hk => by
    have := h.le (k + 1) (by omega) (by omega)
    have := hz (k + 1) (by omega) (by omega)
    omega) (fun k l hk hl e => by
    have h1 := hz (k + 1) (by omega) (by omega)
    have h2 := hz (l + 1) (by omega) (by omega)
    have := h.inj (k + 1) (l + 1) (by omega) (by omega) (by omega) (by omega) (by omega) h1
    omega)
  omega
/-- prices that fit the first i people and their jobs -/
structure Pri (n i : Nat) (C : Nat → Nat → Int) (b : Nat → Nat) (u v : Nat → Int) : Prop where
  feas : ∀ p k, 1 ≤ p → p ≤ i → 1 ≤ k → k ≤ n → u p + v k ≤ C (p - 1) (k - 1)
  tight : ∀ k, 1 ≤ k → k ≤ n → b k ≠ 0 → u (b k) + v k = C (b k - 1) (k - 1)
  neg : ∀ k, 1 ≤ k → k ≤ n → v k ≤ 0
  free : ∀ k, 1 ≤ k → k ≤ n → b k = 0 → v k = 0
  new : ∀ p, i < p → p ≤ n → u p = 0
theorem Pri.up {b : Nat → Nat} {u v : Nat → Int} (h : Pri n i C b u v) (hm : Mat n i b) (hC : Fine n C) (hi : i ≤ n) {f : Nat} (h1 : 1 ≤ f) (h2 : f ≤ n) (h3 : v f = 0) (p : Nat) (hp : 1 ≤ p) (hpi : p ≤ i) : -1000000000 ≤ u p ∧ u p ≤ 1000000000 := by
  have a1 := h.feas p f hp hpi h1 h2
  have a2 := hC.at' (p := p) (k := f) hp (by omega) h1 h2
  obtain ⟨k, k1, k2, k3⟩ := hm.all p hp hpi
  have a3 := h.tight k k1 k2 (by omega)
  rw [k3] at a3
  have a4 := hC.at' (p := p) (k := k) hp (by omega) k1 k2
  have a5 := h.neg k k1 k2
  omega
theorem Pri.vlow {b : Nat → Nat} {u v : Nat → Int} (h : Pri n i C b u v) (hm : Mat n i b) (hC : Fine n C) (hi : i ≤ n) (hu : ∀ p, 1 ≤ p → p ≤ i → u p ≤ 1000000000) {k : Nat} (h1 : 1 ≤ k) (h2 : k ≤ n) : -2000000000 ≤ v k ∧ v k ≤ 0 := by
  have h3 := h.neg k h1 h2
  by_cases hb : b k = 0
  · have := h.free k h1 h2 hb; omega
  · have a1 := h.tight k h1 h2 hb
    have a2 := h3
    have a3 := hm.le k h1 h2
    have a4 := hu (b k) (by omega) a3
    have a5 := hC.at' (p := b k) (k := k) (by omega) (by omega) h1 h2
    omega
/-- what the solver knows behind the first i people -/
structure Got (n i : Nat) (C : Nat → Nat → Int) (b : Nat → Nat) (u v : Nat → Int) : Prop where
  mat : Mat n i b
  pri : Pri n i C b u v
  bu : ∀ p, 1 ≤ p → p ≤ i → -1000000000 ≤ u p ∧ u p ≤ 1000000000
  v0 : -1000000000 * i ≤ v 0 ∧ v 0 ≤ 1000000000 * i
theorem Got.zero (n : Nat) (C : Nat → Nat → Int) : Got n 0 C (fun _ => 0) (fun _ => 0) (fun _ => 0) :=
  ⟨⟨fun k _ _ => Nat.le_refl _, fun p h1 h2 => by omega, fun k l _ _ _ _ _ h => absurd rfl h⟩, ⟨fun p k h1 h2 => by omega, fun k _ _ h => absurd rfl h, fun k _ _ => Int.le_refl _, fun k _ _ _ => rfl, fun p _ _ => rfl⟩, fun p h1 h2 => by omega, by simp⟩
/-- the tree of the search for person i's job; the first i - 1 have theirs -/
structure Tree (n i : Nat) (C : Nat → Nat → Int) (z : Int) (b : Nat → Nat) (u v low : Nat → Int) (fr : Nat → Nat) (seen : Nat → Bool) (a : Nat) : Prop where
  b0 : b 0 = i
  hi : 1 ≤ i ∧ i ≤ n
  mat : Mat n (i - 1) b
  feas : ∀ p k, 1 ≤ p → p < i → 1 ≤ k → k ≤ n → u p + v k ≤ C (p - 1) (k - 1)
  tight : ∀ k, 1 ≤ k → k ≤ n → b k ≠ 0 → u (b k) + v k = C (b k - 1) (k - 1)
  neg : ∀ k, 1 ≤ k → k ≤ n → v k ≤ 0
  free : ∀ k, 1 ≤ k → k ≤ n → b k = 0 → v k = 0
  new : ∀ p, i < p → p ≤ n → u p = 0
  an : a ≤ n
  as : seen a = false
  sn : ∀ k, seen k = true → k ≤ n ∧ b k ≠ 0
  root : a ≠ 0 → seen 0 = true
  none : a = 0 → (∀ k, seen k = false) ∧ u i = 0
  ui : seen 0 = true → -1000000000 ≤ u i ∧ ∀ k, 1 ≤ k → k ≤ n → u i + v k ≤ C (i - 1) (k - 1)
  far : seen 0 = false → ∀ k, 1 ≤ k → k ≤ n → low k = 1125899906842624
  lows : seen 0 = true → ∀ k, 1 ≤ k → k ≤ n → seen k = false → (∀ j, seen j = true → low k ≤ C (b j - 1) (k - 1) - u (b j) - v k) ∧ seen (fr k) = true ∧ low k = C (b (fr k) - 1) (k - 1) - u (b (fr k)) - v k
  zero : a ≠ 0 → low a = 0
  rank : ∃ r : Nat → Nat, (∀ k, seen k = true → r k < r a) ∧ ∀ k, seen k = true → k ≠ 0 → seen (fr k) = true ∧ r (fr k) < r k ∧ u (b (fr k)) + v k = C (b (fr k) - 1) (k - 1)
  v0 : v 0 + u i = z
theorem Tree.start {b : Nat → Nat} {u v : Nat → Int} (h : Got n i C b u v) (hi : i < n) (b' : Nat → Nat) (hb0 : b' 0 = i + 1) (hb : ∀ k, k ≠ 0 → b' k = b k) : Tree n (i + 1) C (v 0) b' u v (fun _ => 1125899906842624) (fun _ => 0) (fun _ => false) 0 where
  b0 := hb0
  hi := by omega
  mat := ⟨fun k h1 h2 => by rw [hb k (by omega)]; exact h.mat.le k h1 h2, fun p h1 h2 => by
    obtain ⟨k, k1, k2, k3⟩ := h.mat.all p h1 h2
    exact ⟨k, k1, k2, by rw [hb k (by omega)]; exact k3⟩, fun k l h1 h2 h3 h4 => by rw [hb k (by omega), hb l (by omega)]; exact h.mat.inj k l h1 h2 h3 h4⟩
  feas := fun p k h1 h2 => h.pri.feas p k h1 (by omega)
  tight := fun k h1 h2 => by rw [hb k (by omega)]; exact h.pri.tight k h1 h2
  neg := h.pri.neg
  free := fun k h1 h2 => by rw [hb k (by omega)]; exact h.pri.free k h1 h2
  new := fun p h1 h2 => h.pri.new p (by omega) h2
  an := by omega
  as := rfl
  sn := fun k hk => by cases hk
  root := fun h => absurd rfl h
  none := fun _ => ⟨fun _ => rfl, h.pri.new _ (by omega) (by omega)⟩
  ui := fun h => by cases h
  far := fun _ k _ _ => rfl
  lows := fun h => by cases h
  zero := fun h => absurd rfl h
  rank := ⟨fun _ => 0, fun k hk => (by cases hk), fun k hk => (by cases hk)⟩
  v0 := by rw [h.pri.new (i + 1) (by omega) (by omega)]; omega
theorem Tree.matI {z : Int} {b : Nat → Nat} {u v low : Nat → Int} {fr : Nat → Nat} {seen : Nat → Bool} {a : Nat} (h : Tree n i C z b u v low fr seen a) : ∃ f, 1 ≤ f ∧ f ≤ n ∧ b f = 0 ∧ v f = 0 := by
  obtain ⟨f, f1, f2, f3⟩ := h.mat.free (by have := h.hi; omega)
  exact ⟨f, f1, f2, f3, h.free f f1 f2 f3⟩
theorem Tree.pri {z : Int} {b : Nat → Nat} {u v low : Nat → Int} {fr : Nat → Nat} {seen : Nat → Bool} {a : Nat} (h : Tree n i C z b u v low fr seen a) (h0 : u i = 0) : Pri n (i - 1) C b u v := ⟨fun p k h1 h2 => h.feas p k h1 (by have := h.hi; omega), h.tight, h.neg, h.free, fun p h1 h2 => by
  by_cases e : p = i
  · rw [e]; exact h0
  · exact h.new p (by omega) h2⟩
theorem Tree.bu {z : Int} {b : Nat → Nat} {u v low : Nat → Int} {fr : Nat → Nat} {seen : Nat → Bool} {a : Nat} (h : Tree n i C z b u v low fr seen a) (hC : Fine n C) (p : Nat) (h1 : 1 ≤ p) (h2 : p ≤ n) : -1000000000 ≤ u p ∧ u p ≤ 1000000000 := by
  obtain ⟨f, f1, f2, f3, f4⟩ := h.matI
  by_cases hpi : i < p
  · rw [h.new p hpi h2]; omega
  · by_cases hp : p = i
    · subst hp
      cases hs : seen 0 with
      | true =>
        have a1 := (h.ui hs).1
        have a2 := (h.ui hs).2 f f1 f2
        have a3 := hC.at' (p := p) (k := f) h1 h2 f1 f2
        omega
      | false =>
        have ha : a = 0 := Decidable.byContradiction fun e => by rw [h.root e] at hs; cases hs
        have := (h.none ha).2
        omega
    · have a1 := h.feas p f h1 (by omega) f1 f2
      have a2 := hC.at' (p := p) (k := f) h1 h2 f1 f2
      obtain ⟨k, k1, k2, k3⟩ := h.mat.all p h1 (by omega)
      have a3 := h.tight k k1 k2 (by omega)
      rw [k3] at a3
      have a4 := hC.at' (p := p) (k := k) h1 h2 k1 k2
      have a5 := h.neg k k1 k2
      omega
theorem Tree.bv {z : Int} {b : Nat → Nat} {u v low : Nat → Int} {fr : Nat → Nat} {seen : Nat → Bool} {a : Nat} (h : Tree n i C z b u v low fr seen a) (hC : Fine n C) (k : Nat) (h1 : 1 ≤ k) (h2 : k ≤ n) : -2000000000 ≤ v k ∧ v k ≤ 0 := by
  have h3 := h.neg k h1 h2
  by_cases hb : b k = 0
  · have := h.free k h1 h2 hb; omega
  · have a1 := h.tight k h1 h2 hb
    have a3 := h.mat.le k h1 h2
    have := h.hi
    have a4 := h.bu hC (b k) (by omega) (by omega)
    have a5 := hC.at' (p := b k) (k := k) (by omega) (by omega) h1 h2
    omega
def se (seen : Nat → Bool) (a : Nat) : Nat → Bool := fun k => if k = a then true else seen k
/-- what the look over the jobs has found behind q of them -/
def over (C : Nat → Nat → Int) (b : Nat → Nat) (u v : Nat → Int) (a k : Nat) : Int := C (b a - 1) (k - 1) - u (b a) - v k
def lowQ (C : Nat → Nat → Int) (b : Nat → Nat) (u v low : Nat → Int) (sn : Nat → Bool) (a q : Nat) : Nat → Int := fun k => if 1 ≤ k ∧ k < q ∧ sn k = false ∧ over C b u v a k < low k then over C b u v a k else low k
def frQ (C : Nat → Nat → Int) (b : Nat → Nat) (u v low : Nat → Int) (fr : Nat → Nat) (sn : Nat → Bool) (a q : Nat) : Nat → Nat := fun k => if 1 ≤ k ∧ k < q ∧ sn k = false ∧ over C b u v a k < low k then a else fr k
structure Least (low : Nat → Int) (sn : Nat → Bool) (q : Nat) (st : Int) (nx : Nat) : Prop where
  all : ∀ k, 1 ≤ k → k < q → sn k = false → st ≤ low k
  is : (nx = 0 ∧ st = 1125899906842624) ∨ (1 ≤ nx ∧ nx < q ∧ sn nx = false ∧ st = low nx)
theorem Least.zero (low : Nat → Int) (sn : Nat → Bool) : Least low sn 1 1125899906842624 0 := ⟨fun k h1 h2 => by omega, .inl ⟨rfl, rfl⟩⟩
theorem Least.skip {low : Nat → Int} {sn : Nat → Bool} {q : Nat} {st : Int} {nx : Nat} (h : Least low sn q st nx) (low' : Nat → Int) (hl : ∀ k, k < q → low' k = low k) (hq : sn q = true ∨ st ≤ low' q) : Least low' sn (q + 1) st nx := ⟨fun k h1 h2 h3 => by
  by_cases e : k = q
  · subst e
    rcases hq with hq | hq
    · rw [hq] at h3; cases h3
    · exact hq
  · rw [hl k (by omega)]; exact h.all k h1 (by omega) h3, by
  rcases h.is with e | ⟨h1, h2, h3, h4⟩
  · exact .inl e
  · exact .inr ⟨h1, by omega, h3, by rw [hl nx h2]; exact h4⟩⟩
theorem Least.take {low : Nat → Int} {sn : Nat → Bool} {q : Nat} {st : Int} {nx : Nat} (h : Least low sn q st nx) (h0 : 1 ≤ q) (low' : Nat → Int) (hl : ∀ k, k < q → low' k = low k) (hs : sn q = false) (hq : low' q < st) : Least low' sn (q + 1) (low' q) q := ⟨fun k h1 h2 h3 => by
  by_cases e : k = q
  · subst e; exact Int.le_refl _
  · rw [hl k (by omega)]
    have := h.all k h1 (by omega) h3
    omega, .inr ⟨h0, by omega, hs, rfl⟩⟩
/-- the prices turn -/
structure Moved (n : Nat) (b : Nat → Nat) (sn : Nat → Bool) (st : Int) (u v low u' v' low' : Nat → Int) (q : Nat) : Prop where
  uin : ∀ k, k < q → sn k = true → u' (b k) = u (b k) + st
  uout : ∀ p, (∀ k, k < q → sn k = true → b k ≠ p) → u' p = u p
  v : ∀ k, v' k = if k < q ∧ sn k = true then v k - st else v k
  low : ∀ k, low' k = if k < q ∧ sn k = false then low k - st else low k
def put {α : Type} (f : Nat → α) (k : Nat) (x : α) : Nat → α := fun j => if j = k then x else f j
theorem Moved.zero (n : Nat) (b : Nat → Nat) (sn : Nat → Bool) (st : Int) (u v low : Nat → Int) : Moved n b sn st u v low u v low 0 := ⟨fun k h => by omega, fun p _ => rfl, fun k => by rw [if_neg (by omega)], fun k => by rw [if_neg (by omega)]⟩
theorem Moved.seen {b : Nat → Nat} {sn : Nat → Bool} {st : Int} {u v low u' v' low' : Nat → Int} {q : Nat} (h : Moved n b sn st u v low u' v' low' q) (hs : sn q = true) (hi : ∀ k, k < q → sn k = true → b k ≠ b q) : Moved n b sn st u v low (put u' (b q) (u' (b q) + st)) (put v' q (v' q - st)) low' (q + 1) where
  uin := fun k hk hsk => by
    unfold put
    by_cases e : k = q
    · subst e
      rw [if_pos rfl, h.uout _ hi]
    · rw [if_neg (hi k (by omega) hsk)]
      exact h.uin k (by omega) hsk
  uout := fun p hp => by
    unfold put
    rw [if_neg (fun e => hp q (by omega) hs e.symm)]
    exact h.uout p fun k hk => hp k (by omega)
  v := fun k => by
    unfold put
    by_cases e : k = q
    · subst e
      rw [if_pos rfl, if_pos ⟨by omega, hs⟩, h.v k, if_neg (by omega)]
    · rw [if_neg e, h.v k]
      by_cases hk : k < q
      · have : k < q + 1 := by omega
        simp [hk, this]
      · have : ¬ k < q + 1 := by omega
        simp [hk, this]
  low := fun k => by
    rw [h.low k]
    by_cases e : k = q
    · subst e
      rw [hs]; simp
    · by_cases hk : k < q
      · have : k < q + 1 := by omega
        simp [hk, this]
      · have : ¬ k < q + 1 := by omega
        simp [hk, this]
theorem Moved.not {b : Nat → Nat} {sn : Nat → Bool} {st : Int} {u v low u' v' low' : Nat → Int} {q : Nat} (h : Moved n b sn st u v low u' v' low' q) (hs : sn q = false) : Moved n b sn st u v low u' v' (put low' q (low' q - st)) (q + 1) where
  uin := fun k hk hsk => by
    by_cases e : k = q
    · subst e; rw [hs] at hsk; cases hsk
    · exact h.uin k (by omega) hsk
  uout := fun p hp => h.uout p fun k hk => hp k (by omega)
  v := fun k => by
    rw [h.v k]
    by_cases e : k = q
    · subst e
      rw [hs]; simp
    · by_cases hk : k < q
      · have : k < q + 1 := by omega
        simp [hk, this]
      · have : ¬ k < q + 1 := by omega
        simp [hk, this]
  low := fun k => by
    unfold put
    by_cases e : k = q
    · subst e
      rw [if_pos rfl, if_pos ⟨by omega, hs⟩, h.low k, if_neg (by omega)]
    · rw [if_neg e, h.low k]
      by_cases hk : k < q
      · have : k < q + 1 := by omega
        simp [hk, this]
      · have : ¬ k < q + 1 := by omega
        simp [hk, this]
end Go.Proofs.Ytjmpfkolpgbebaa.As
