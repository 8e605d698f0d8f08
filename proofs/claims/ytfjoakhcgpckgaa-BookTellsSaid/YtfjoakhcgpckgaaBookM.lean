/- Plain: slots that are booked, how much at a time, the points at which that changes, the gaps; no program in sight. -/
import Derived.Lib.SlicesCompact
namespace Go.Proofs.Ytfjoakhcgpckgaa.Bk
open Go.Sort
set_option linter.unusedVariables false
structure Sl where
  fr : Int
  to : Int
  n : Int
/-- what a slot takes at a time -/
def on (s : Sl) (t : Int) : Int := if s.fr ≤ t ∧ t < s.to then s.n else 0
def bk : List Sl → Int → Int
  | [], _ => 0
  | s :: L, t => on s t + bk L t
theorem bk_append (A B : List Sl) (t : Int) : bk (A ++ B) t = bk A t + bk B t := by
  induction A with
  | nil => simp [bk]
  | cons s A ih => simp [bk, ih, Int.add_assoc]
theorem bk_take {L : List Sl} {j : Nat} {s : Sl} (h : L[j]? = some s) (t : Int) : bk (L.take (j + 1)) t = bk (L.take j) t + on s t := by
  rw [List.take_add_one, h, bk_append]
  simp [bk]
theorem bk_mono {L : List Sl} {t t' : Int} (h : ∀ s, s ∈ L → on s t ≤ on s t') : bk L t ≤ bk L t' := by
  induction L with
  | nil => simp [bk]
  | cons s L ih =>
    have h1 := h s (by simp)
    have h2 := ih fun x hx => h x (by simp [hx])
    simp only [bk]
    omega
theorem bk_eq {L : List Sl} {t t' : Int} (h : ∀ s, s ∈ L → on s t = on s t') : bk L t = bk L t' := by
  have h1 : bk L t ≤ bk L t' := bk_mono fun s hs => by rw [h s hs]; exact Int.le_refl _
  have h2 : bk L t' ≤ bk L t := bk_mono fun s hs => by rw [h s hs]; exact Int.le_refl _
  omega
/-- numbers that are right -/
def Sane (L : List Sl) : Prop := ∀ s, s ∈ L → 0 ≤ s.fr ∧ s.fr < s.to ∧ s.to ≤ 1000000 ∧ 1 ≤ s.n ∧ s.n ≤ 1099511627776
theorem Sane.at' {L : List Sl} (h : Sane L) {j : Nat} {s : Sl} (hj : L[j]? = some s) : 0 ≤ s.fr ∧ s.fr < s.to ∧ s.to ≤ 1000000 ∧ 1 ≤ s.n ∧ s.n ≤ 1099511627776 := h s (List.mem_of_getElem? hj)
theorem on_bound {s : Sl} (h : 1 ≤ s.n ∧ s.n ≤ 1099511627776) (t : Int) : 0 ≤ on s t ∧ on s t ≤ 1099511627776 := by
  unfold on
  split <;> omega
theorem bk_bound {L : List Sl} (h : Sane L) (t : Int) : 0 ≤ bk L t ∧ bk L t ≤ 1099511627776 * L.length := by
  induction L with
  | nil => simp [bk]
  | cons s L ih =>
    have h1 := on_bound (h s (by simp)).2.2.2 t
    have h2 := ih fun x hx => h x (by simp [hx])
    simp only [bk, List.length_cons]
    omega
theorem Sane.take {L : List Sl} (h : Sane L) (j : Nat) : Sane (L.take j) := fun s hs => h s (List.mem_of_mem_take hs)
theorem bk_small {L : List Sl} (h : Sane L) (hl : L.length ≤ 101) (j : Nat) (t : Int) : 0 ≤ bk (L.take j) t ∧ bk (L.take j) t ≤ 111050674405376 := by
  have h1 := bk_bound (h.take j) t
  have h2 : (L.take j).length ≤ 101 := by rw [List.length_take]; omega
  omega
theorem bk_small' {L : List Sl} (h : Sane L) (hl : L.length ≤ 101) (t : Int) : 0 ≤ bk L t ∧ bk L t ≤ 111050674405376 := by
  have h1 := bk_bound h t
  omega
/-- of the times at which a slot begins, from a on, up to t, one at which as much is booked -/
theorem top_from (L : List Sl) (a t : Int) (hat : a ≤ t) : ∃ u, a ≤ u ∧ u ≤ t ∧ (u = a ∨ ∃ s, s ∈ L ∧ s.fr = u) ∧ ∀ s, s ∈ L → s.fr ≤ t → s.fr ≤ u := by
  induction L with
  | nil => exact ⟨a, Int.le_refl _, hat, .inl rfl, fun s hs => by cases hs⟩
  | cons x L ih =>
    obtain ⟨u, h1, h2, h3, h4⟩ := ih
    by_cases hx : x.fr ≤ t ∧ u < x.fr
    · refine ⟨x.fr, by omega, hx.1, .inr ⟨x, by simp, rfl⟩, fun s hs hst => ?_⟩
      rcases List.mem_cons.1 hs with rfl | hs
      · exact Int.le_refl _
      · have := h4 s hs hst; omega
    · refine ⟨u, h1, h2, ?_, fun s hs hst => ?_⟩
      · rcases h3 with h3 | ⟨s, hs, e⟩
        · exact .inl h3
        · exact .inr ⟨s, by simp [hs], e⟩
      · rcases List.mem_cons.1 hs with rfl | hs
        · omega
        · exact h4 s hs hst
theorem bk_from {L : List Sl} (h : Sane L) {a t : Int} (hat : a ≤ t) : ∃ u, a ≤ u ∧ u ≤ t ∧ (u = a ∨ ∃ s, s ∈ L ∧ s.fr = u) ∧ bk L t ≤ bk L u := by
  obtain ⟨u, h1, h2, h3, h4⟩ := top_from L a t hat
  refine ⟨u, h1, h2, h3, bk_mono fun s hs => ?_⟩
  have h5 := h s hs
  have h6 := h4 s hs
  unfold on
  split
  · rename_i hc
    have := h6 hc.1
    rw [if_pos ⟨by omega, by omega⟩]
    exact Int.le_refl _
  · split <;> omega
/-- the points -/
structure IsPts (L : List Sl) (P : List Int) : Prop where
  inc : P.Pairwise (· < ·)
  mem : ∀ t, t ∈ P ↔ t = 0 ∨ t = 1000000 ∨ ∃ s, s ∈ L ∧ (t = s.fr ∨ t = s.to)
def raw (L : List Sl) : List Int := [0, 1000000] ++ L.flatMap fun s => [s.fr, s.to]
theorem raw_take {L : List Sl} {j : Nat} {s : Sl} (h : L[j]? = some s) : raw (L.take (j + 1)) = raw (L.take j) ++ [s.fr, s.to] := by
  unfold raw
  rw [List.take_add_one, h, List.flatMap_append, List.append_assoc]
  simp
theorem raw_length (L : List Sl) : (raw L).length = 2 + 2 * L.length := by
  unfold raw
  induction L with
  | nil => rfl
  | cons s L ih => simp [List.flatMap_cons] at ih ⊢; omega
theorem raw_mem (L : List Sl) (t : Int) : t ∈ raw L ↔ t = 0 ∨ t = 1000000 ∨ ∃ s, s ∈ L ∧ (t = s.fr ∨ t = s.to) := by
  unfold raw
  simp [List.mem_flatMap]
def srt (L : List Sl) : List Int := (raw L).mergeSort fun x y => decide (x ≤ y)
def pts (L : List Sl) : List Int := Lib.compact (srt L)
theorem compact_inc (d : Array Int) (hs : ∀ i j, i ≤ j → j < d.size → d[i]! ≤ d[j]!) : ∀ m, m ≤ d.size → (Lib.compactUpTo d m).Pairwise (· < ·) ∧ ∀ x, x ∈ Lib.compactUpTo d m ↔ ∃ j, j < m ∧ d[j]! = x
  | 0, _ => ⟨by simp [Lib.compactUpTo], fun x => by simp [Lib.compactUpTo]⟩
  | m + 1, h => by
    obtain ⟨h1, h2⟩ := compact_inc d hs m (by omega)
    rw [Lib.compactUpTo_succ]
    by_cases hk : Lib.keeps d m = true
    · rw [if_pos hk]
      refine ⟨List.pairwise_append.2 ⟨h1, by simp, fun x hx y hy => ?_⟩, fun x => ?_⟩
      · obtain ⟨j, hj, rfl⟩ := (h2 x).1 hx
        rw [List.mem_singleton] at hy
        subst hy
        have hm : m ≠ 0 := by omega
        have hne : d[m]! ≠ d[m - 1]! := by
          have : m = 0 ∨ d[m]! ≠ d[m - 1]! := by simpa only [Lib.keeps, decide_eq_true_eq] using hk
          exact this.resolve_left hm
        have h3 := hs j (m - 1) (by omega) (by omega)
        have h4 := hs (m - 1) m (by omega) (by omega)
        omega
      · rw [List.mem_append, List.mem_singleton, h2]
        constructor
        · rintro (⟨j, hj, e⟩ | e)
          · exact ⟨j, by omega, e⟩
          · exact ⟨m, by omega, e.symm⟩
        · rintro ⟨j, hj, e⟩
          by_cases hjm : j = m
          · subst hjm; exact .inr e.symm
          · exact .inl ⟨j, by omega, e⟩
    · rw [if_neg hk, List.append_nil]
      refine ⟨h1, fun x => ?_⟩
      have hm : m ≠ 0 := fun e => hk (by rw [e]; exact Lib.keeps_lt_one d 0 (by omega))
      have he : d[m]! = d[m - 1]! := Decidable.byContradiction fun hne => hk (Lib.keeps_pos hne)
      rw [h2]
      constructor
      · rintro ⟨j, hj, e⟩
        exact ⟨j, by omega, e⟩
      · rintro ⟨j, hj, e⟩
        by_cases hjm : j = m
        · subst hjm; exact ⟨j - 1, by omega, by rw [← he]; exact e⟩
        · exact ⟨j, by omega, e⟩
theorem srt_length (L : List Sl) : (srt L).length = 2 + 2 * L.length := by
  unfold srt
  rw [List.length_mergeSort, raw_length]
theorem pts_ok (L : List Sl) : IsPts L (pts L) := by
  have hp : (srt L).Pairwise (· ≤ ·) := by
    have := List.pairwise_mergeSort (le := fun x y : Int => decide (x ≤ y)) (by intro a b c; simp; omega) (by intro a b; simp; omega) (raw L)
    simpa [srt] using this
  have hs : ∀ i j, i ≤ j → j < (srt L).toArray.size → (srt L).toArray[i]! ≤ (srt L).toArray[j]! := fun i j hij hj => by
    have hj' : j < (srt L).length := by simpa using hj
    by_cases e : i = j
    · subst e; exact Int.le_refl _
    · have := List.pairwise_iff_getElem.1 hp i j (by omega) hj' (by omega)
      simp [hj', show i < (srt L).length from by omega]
      exact this
  obtain ⟨h1, h2⟩ := compact_inc (srt L).toArray hs (srt L).length (by simp)
  refine ⟨h1, fun t => ?_⟩
  rw [← raw_mem]
  have h3 : t ∈ raw L ↔ t ∈ srt L := by
    unfold srt
    rw [List.mem_mergeSort]
  rw [h3]
  show t ∈ Lib.compactUpTo _ _ ↔ _
  rw [h2 t, List.mem_iff_getElem]
  constructor
  · rintro ⟨j, hj, e⟩
    exact ⟨j, hj, by simpa [hj] using e⟩
  · rintro ⟨j, hj, e⟩
    exact ⟨j, hj, by simpa [hj] using e⟩
theorem pts_length (L : List Sl) : (pts L).length ≤ 2 + 2 * L.length := by
  rw [← srt_length]
  show (Lib.compactUpTo _ _).length ≤ _
  unfold Lib.compactUpTo
  rw [List.length_map]
  exact Nat.le_trans (List.length_filter_le _ _) (by simp)
/-- two points that are next to each other -/
structure NextP (P : List Int) (i : Nat) (p q : Int) : Prop where
  one : P[i]? = some p
  two : P[i + 1]? = some q
theorem IsPts.lt {L : List Sl} {P : List Int} (h : IsPts L P) {i j : Nat} {p q : Int} (hi : P[i]? = some p) (hj : P[j]? = some q) (hij : i < j) : p < q := by
  obtain ⟨h1, rfl⟩ := List.getElem?_eq_some_iff.1 hi
  obtain ⟨h2, rfl⟩ := List.getElem?_eq_some_iff.1 hj
  exact List.pairwise_iff_getElem.1 h.inc i j h1 h2 hij
theorem IsPts.apart {L : List Sl} {P : List Int} (h : IsPts L P) {i : Nat} {p q x : Int} (hn : NextP P i p q) (hx : x ∈ P) : x ≤ p ∨ q ≤ x := by
  obtain ⟨j, hj, rfl⟩ := List.getElem_of_mem hx
  have hj' : P[j]? = some P[j] := List.getElem?_eq_getElem hj
  by_cases h1 : j ≤ i
  · by_cases e : j = i
    · subst e
      have := hn.one
      rw [hj'] at this
      cases this
      exact .inl (Int.le_refl _)
    · exact .inl (Int.le_of_lt (h.lt hj' hn.one (by omega)))
  · by_cases e : j = i + 1
    · subst e
      have := hn.two
      rw [hj'] at this
      cases this
      exact .inr (Int.le_refl _)
    · exact .inr (Int.le_of_lt (h.lt hn.two hj' (by omega)))
theorem IsPts.range {L : List Sl} {P : List Int} (h : IsPts L P) (hL : Sane L) {x : Int} (hx : x ∈ P) : 0 ≤ x ∧ x ≤ 1000000 := by
  rcases (h.mem x).1 hx with rfl | rfl | ⟨s, hs, e⟩
  · omega
  · omega
  · have := hL s hs
    rcases e with rfl | rfl <;> omega
theorem IsPts.first {L : List Sl} {P : List Int} (h : IsPts L P) (hL : Sane L) : P[0]? = some 0 := by
  obtain ⟨j, hj, e⟩ := List.getElem_of_mem ((h.mem 0).2 (.inl rfl))
  by_cases h0 : j = 0
  · subst h0; rw [List.getElem?_eq_getElem hj, e]
  · have h1 := h.lt (List.getElem?_eq_getElem (show 0 < P.length from by omega)) (List.getElem?_eq_getElem hj) (by omega)
    have h2 := (h.range hL (List.getElem_mem (show 0 < P.length from by omega))).1
    omega
theorem IsPts.two {L : List Sl} {P : List Int} (h : IsPts L P) (hL : Sane L) : 2 ≤ P.length := by
  obtain ⟨j, hj, e⟩ := List.getElem_of_mem ((h.mem 1000000).2 (.inr (.inl rfl)))
  by_cases h0 : j = 0
  · subst h0
    have := h.first hL
    rw [List.getElem?_eq_getElem hj, e] at this
    cases this
  · omega
theorem IsPts.last {L : List Sl} {P : List Int} (h : IsPts L P) (hL : Sane L) : P[P.length - 1]? = some 1000000 := by
  obtain ⟨j, hj, e⟩ := List.getElem_of_mem ((h.mem 1000000).2 (.inr (.inl rfl)))
  have h2 := h.two hL
  by_cases h0 : j = P.length - 1
  · subst h0; rw [List.getElem?_eq_getElem hj, e]
  · have hl : P.length - 1 < P.length := by omega
    have h1 := h.lt (List.getElem?_eq_getElem hj) (List.getElem?_eq_getElem hl) (by omega)
    have h3 := (h.range hL (List.getElem_mem hl)).2
    omega
theorem IsPts.const {L : List Sl} {P : List Int} (h : IsPts L P) {i : Nat} {p q t : Int} (hn : NextP P i p q) (h1 : p ≤ t) (h2 : t < q) : bk L t = bk L p := bk_eq fun s hs => by
  have ha := h.apart hn ((h.mem s.fr).2 (.inr (.inr ⟨s, hs, .inl rfl⟩)))
  have hb := h.apart hn ((h.mem s.to).2 (.inr (.inr ⟨s, hs, .inr rfl⟩)))
  have hpq := h.lt hn.one hn.two (by omega)
  unfold on
  by_cases hc : s.fr ≤ t ∧ t < s.to
  · rw [if_pos hc, if_pos ⟨by omega, by omega⟩]
  · rw [if_neg hc, if_neg (fun hd => hc ⟨by omega, by omega⟩)]
/-- is a slot right? are they? -/
def slB (size : Int) (s : Sl) : Bool := decide (0 ≤ s.fr ∧ s.fr < s.to ∧ s.to ≤ 1000000 ∧ 1 ≤ s.n ∧ s.n ≤ size)
theorem slB_yes {size : Int} {s : Sl} (h : slB size s = true) : 0 ≤ s.fr ∧ s.fr < s.to ∧ s.to ≤ 1000000 ∧ 1 ≤ s.n ∧ s.n ≤ size := by simpa [slB] using h
theorem slB_no {size : Int} {s : Sl} (h : slB size s = false) : ¬ (0 ≤ s.fr ∧ s.fr < s.to ∧ s.to ≤ 1000000 ∧ 1 ≤ s.n ∧ s.n ≤ size) := by simpa [slB] using h
def overB (size : Int) (L : List Sl) : Bool := L.any fun s => decide (size < bk L s.fr)
def overP (size : Int) (L : List Sl) : Bool := (pts L).any fun t => decide (size < bk L t)
theorem over_same {size : Int} {L : List Sl} (h : Sane L) (h1 : 0 ≤ size) : overP size L = overB size L := by
  rw [Bool.eq_iff_iff]
  simp only [overP, overB, List.any_eq_true, decide_eq_true_eq]
  constructor
  · rintro ⟨t, ht, hs⟩
    have h2 := ((pts_ok L).range h ht).1
    obtain ⟨u, u1, u2, u3, u4⟩ := bk_from h (show (-1 : Int) ≤ t from by omega)
    rcases u3 with rfl | ⟨s, hs, rfl⟩
    · have : bk L (-1) ≤ bk ([] : List Sl) 0 := by
        have hz : bk L (-1) = 0 := by
          have : ∀ M : List Sl, (∀ s, s ∈ M → 0 ≤ s.fr) → bk M (-1) = 0 := fun M => by
            induction M with
            | nil => intro _; rfl
            | cons x M ih =>
              intro hM
              have := hM x (by simp)
              simp only [bk]
              rw [ih fun s hs => hM s (by simp [hs]), on, if_neg (by omega)]
              rfl
          exact this L fun s hs => (h s hs).1
        rw [hz]; simp [bk]
      simp only [bk] at this
      omega
    · exact ⟨s, hs, by omega⟩
  · rintro ⟨s, hs, hb⟩
    exact ⟨s.fr, ((pts_ok L).mem _).2 (.inr (.inr ⟨s, hs, .inl rfl⟩)), hb⟩
def slotsE (size : Int) (L : List Sl) : Int := if size < 1 ∨ 1099511627776 < size then 1 else if 100 < L.length then 2 else if L.all (slB size) then (if overB size L then 10 else 0) else 4
theorem slots_sane {size : Int} {L : List Sl} (h : L.all (slB size) = true) (hs : size ≤ 1099511627776) : Sane L := fun s hs' => by
  have := slB_yes (List.all_eq_true.1 h s hs')
  omega
theorem slotsE_good {size : Int} {L : List Sl} (h : slotsE size L = 0) : 1 ≤ size ∧ size ≤ 1099511627776 ∧ L.length ≤ 100 ∧ Sane L ∧ L.all (slB size) = true ∧ overB size L = false := by
  unfold slotsE at h
  split at h
  · cases h
  · rename_i h0
    split at h
    · cases h
    · split at h
      · rename_i hs
        split at h
        · cases h
        · rename_i ho
          exact ⟨by omega, by omega, by omega, slots_sane hs (by omega), hs, by simpa using ho⟩
      · cases h
end Go.Proofs.Ytfjoakhcgpckgaa.Bk
