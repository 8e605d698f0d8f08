/- Plain: the gaps in which more could be booked, the first of them that is long enough. -/
import Derived.Test.YtfjoakhcgpckgaaBookM
namespace Go.Proofs.Ytfjoakhcgpckgaa.Bk
set_option linter.unusedVariables false
def addG (n : Int) (out : List Sl) (p q free : Int) : List Sl :=
  if free < n then out else
  match out.getLast? with
  | some g => if g.to = p then out.dropLast ++ [⟨g.fr, q, min g.n free⟩] else out ++ [⟨p, q, free⟩]
  | none => [⟨p, q, free⟩]
theorem addG_skip {n p q free : Int} {out : List Sl} (h : free < n) : addG n out p q free = out := by rw [addG, if_pos h]
theorem addG_merge {n p q free : Int} {o : List Sl} {g : Sl} (h : ¬ free < n) (hg : g.to = p) : addG n (o ++ [g]) p q free = o ++ [⟨g.fr, q, min g.n free⟩] := by
  rw [addG, if_neg h]
  simp [hg]
theorem addG_new {n p q free : Int} {out : List Sl} (h : ¬ free < n) (hg : ∀ g, out.getLast? = some g → g.to ≠ p) : addG n out p q free = out ++ [⟨p, q, free⟩] := by
  rw [addG, if_neg h]
  cases ho : out.getLast? with
  | none => rw [List.getLast?_eq_none_iff.1 ho]; rfl
  | some g => simp only; rw [if_neg (hg g ho)]
def gapsTo (size n : Int) (L : List Sl) (P : List Int) : Nat → List Sl
  | 0 => []
  | i + 1 => addG n (gapsTo size n L P i) (P.getD i 0) (P.getD (i + 1) 0) (size - bk L (P.getD i 0))
theorem gapsTo_succ {size n : Int} {L : List Sl} {P : List Int} {i : Nat} {p q : Int} (h : NextP P i p q) : gapsTo size n L P (i + 1) = addG n (gapsTo size n L P i) p q (size - bk L p) := by
  rw [gapsTo, List.getD_eq_getElem?_getD, List.getD_eq_getElem?_getD, h.one, h.two]
  rfl
theorem addG_length (n p q free : Int) (out : List Sl) : (addG n out p q free).length ≤ out.length + 1 := by
  unfold addG
  split
  · omega
  · split
    · rename_i g hg
      have : out ≠ [] := fun e => by rw [e] at hg; cases hg
      have := List.length_pos_iff.2 this
      split <;> simp <;> omega
    · rename_i hg
      rw [List.getLast?_eq_none_iff.1 hg]; simp
theorem gapsTo_length (size n : Int) (L : List Sl) (P : List Int) : ∀ i, (gapsTo size n L P i).length ≤ i
  | 0 => Nat.le_refl _
  | i + 1 => Nat.le_trans (addG_length _ _ _ _ _) (Nat.succ_le_succ (gapsTo_length size n L P i))
/-- the gaps up to a point -/
structure GapI (size n : Int) (L out : List Sl) (p : Int) : Prop where
  ok : ∀ g, g ∈ out → 0 ≤ g.fr ∧ g.fr < g.to ∧ g.to ≤ p
  fit : ∀ g, g ∈ out → ∀ t, g.fr ≤ t → t < g.to → bk L t + n ≤ size
  all : ∀ t, 0 ≤ t → t < p → bk L t + n ≤ size → ∃ g, g ∈ out ∧ g.fr ≤ t ∧ t < g.to
  start : ∀ g, g ∈ out → g.fr = 0 ∨ size < bk L (g.fr - 1) + n
  stop : ∀ g, g ∈ out → g.to = p ∨ size < bk L g.to + n
  inc : out.Pairwise fun g h => g.to ≤ h.fr
theorem GapI.last {size n p : Int} {L out : List Sl} (h : GapI size n L out p) {g : Sl} (hg : g ∈ out) (hp : g.to = p) : out.getLast? = some g := by
  rcases List.eq_nil_or_concat out with e | ⟨o, l, e⟩
  · rw [e] at hg; cases hg
  · rw [List.concat_eq_append] at e
    subst e
    rcases List.mem_append.1 hg with h1 | h1
    · have h2 := (List.pairwise_append.1 h.inc).2.2 g h1 l (by simp)
      have h3 := h.ok l (by simp)
      omega
    · rw [List.mem_singleton] at h1
      subst h1
      simp
theorem GapI.zero {size n : Int} {L : List Sl} : GapI size n L [] 0 := ⟨fun g h => (by cases h), fun g h => (by cases h), fun t h1 h2 => (by omega), fun g h => (by cases h), fun g h => (by cases h), List.Pairwise.nil⟩
theorem GapI.new {size n p q : Int} {L out : List Sl} (h : GapI size n L out p) (hp : 0 ≤ p) (hpq : p < q) (hc : ∀ t, p ≤ t → t < q → bk L t = bk L p) (hf : ¬ size - bk L p < n) (hn : ∀ g, out.getLast? = some g → g.to ≠ p) : GapI size n L (addG n out p q (size - bk L p)) q := by
  rw [addG_new hf hn]
  have hne : ∀ g, g ∈ out → g.to ≠ p := fun g hg e => hn g (h.last hg e) e
  refine ⟨fun g hg => ?_, fun g hg t h1 h2 => ?_, fun t h1 h2 h3 => ?_, fun g hg => ?_, fun g hg => ?_, ?_⟩
  · rcases List.mem_append.1 hg with hg | hg
    · have := h.ok g hg; omega
    · rw [List.mem_singleton] at hg; subst hg; simp only; omega
  · rcases List.mem_append.1 hg with hg | hg
    · exact h.fit g hg t h1 h2
    · rw [List.mem_singleton] at hg; subst hg
      simp only at h1 h2
      rw [hc t h1 h2]; omega
  · by_cases htp : t < p
    · obtain ⟨g, hg, g1, g2⟩ := h.all t h1 htp h3
      exact ⟨g, by simp [hg], g1, g2⟩
    · exact ⟨⟨p, q, size - bk L p⟩, by simp, by simp only; omega, h2⟩
  · rcases List.mem_append.1 hg with hg | hg
    · exact h.start g hg
    · rw [List.mem_singleton] at hg; subst hg
      simp only
      by_cases hp0 : p = 0
      · exact .inl hp0
      · right
        refine Decidable.byContradiction fun hc2 => ?_
        obtain ⟨g, hg, g1, g2⟩ := h.all (p - 1) (by omega) (by omega) (by omega)
        have := h.ok g hg
        exact hne g hg (by omega)
  · rcases List.mem_append.1 hg with hg | hg
    · exact .inr ((h.stop g hg).resolve_left (hne g hg))
    · rw [List.mem_singleton] at hg; subst hg
      exact .inl rfl
  · refine List.pairwise_append.2 ⟨h.inc, by simp, fun x hx y hy => ?_⟩
    rw [List.mem_singleton] at hy; subst hy
    exact (h.ok x hx).2.2
theorem GapI.step {size n p q : Int} {L out : List Sl} (h : GapI size n L out p) (hp : 0 ≤ p) (hpq : p < q) (hc : ∀ t, p ≤ t → t < q → bk L t = bk L p) : GapI size n L (addG n out p q (size - bk L p)) q := by
  by_cases hf : size - bk L p < n
  · rw [addG_skip hf]
    refine ⟨fun g hg => ?_, h.fit, fun t h1 h2 h3 => ?_, h.start, fun g hg => ?_, h.inc⟩
    · have := h.ok g hg; omega
    · by_cases htp : t < p
      · exact h.all t h1 htp h3
      · rw [hc t (by omega) h2] at h3; omega
    · rcases h.stop g hg with e | e
      · right; rw [e]; omega
      · exact .inr e
  · cases ho : out.getLast? with
    | some l =>
      by_cases hl : l.to = p
      · obtain ⟨o, rfl⟩ : ∃ o, out = o ++ [l] := by
          rcases List.eq_nil_or_concat out with e | ⟨o, l', e⟩
          · rw [e] at ho; cases ho
          · rw [List.concat_eq_append] at e
            subst e
            simp at ho
            subst ho
            exact ⟨o, rfl⟩
        rw [addG_merge hf hl]
        have hlo := h.ok l (by simp)
        have hpw := List.pairwise_append.1 h.inc
        refine ⟨fun g hg => ?_, fun g hg t h1 h2 => ?_, fun t h1 h2 h3 => ?_, fun g hg => ?_, fun g hg => ?_, ?_⟩
        · rcases List.mem_append.1 hg with hg | hg
          · have := h.ok g (by simp [hg]); omega
          · rw [List.mem_singleton] at hg; subst hg; simp only; omega
        · rcases List.mem_append.1 hg with hg | hg
          · exact h.fit g (by simp [hg]) t h1 h2
          · rw [List.mem_singleton] at hg; subst hg
            simp only at h1 h2
            by_cases htp : t < p
            · exact h.fit l (by simp) t h1 (by omega)
            · rw [hc t (by omega) h2]; omega
        · by_cases htp : t < p
          · obtain ⟨g, hg, g1, g2⟩ := h.all t h1 htp h3
            rcases List.mem_append.1 hg with hg | hg
            · exact ⟨g, by simp [hg], g1, g2⟩
            · rw [List.mem_singleton] at hg; subst hg
              exact ⟨⟨g.fr, q, min g.n (size - bk L p)⟩, by simp, g1, by simp only; omega⟩
          · exact ⟨⟨l.fr, q, min l.n (size - bk L p)⟩, by simp, by simp only; omega, h2⟩
        · rcases List.mem_append.1 hg with hg | hg
          · exact h.start g (by simp [hg])
          · rw [List.mem_singleton] at hg; subst hg
            exact h.start l (by simp)
        · rcases List.mem_append.1 hg with hg | hg
          · rcases h.stop g (by simp [hg]) with e | e
            · have := hpw.2.2 g hg l (by simp); omega
            · exact .inr e
          · rw [List.mem_singleton] at hg; subst hg
            exact .inl rfl
        · refine List.pairwise_append.2 ⟨hpw.1, by simp, fun x hx y hy => ?_⟩
          rw [List.mem_singleton] at hy; subst hy
          exact hpw.2.2 x hx l (by simp)
      · exact h.new hp hpq hc hf (fun g hg => by rw [ho] at hg; cases hg; exact hl)
    | none => exact h.new hp hpq hc hf (fun g hg => by rw [ho] at hg; cases hg)
theorem gaps_inv {size n : Int} {L : List Sl} {P : List Int} (hP : IsPts L P) (hS : Sane L) : ∀ i p, P[i]? = some p → GapI size n L (gapsTo size n L P i) p
  | 0, p, h => by
    rw [hP.first hS] at h
    cases h
    exact GapI.zero
  | i + 1, q, h => by
    obtain ⟨p, hp⟩ : ∃ p, P[i]? = some p := ⟨_, List.getElem?_eq_getElem (by have := (List.getElem?_eq_some_iff.1 h).1; omega)⟩
    have hn : NextP P i p q := ⟨hp, h⟩
    rw [gapsTo_succ hn]
    exact (gaps_inv hP hS i p hp).step (hP.range hS (List.mem_of_getElem? hp)).1 (hP.lt hp h (by omega)) fun t h1 h2 => hP.const hn h1 h2
def gapsOf (size n : Int) (L : List Sl) : List Sl := gapsTo size n L (pts L) ((pts L).length - 1)
theorem gapsOf_inv {size n : Int} {L : List Sl} (hS : Sane L) : GapI size n L (gapsOf size n L) 1000000 := gaps_inv (pts_ok L) hS _ _ ((pts_ok L).last hS)
/-- from t on there is room for so long -/
structure Fit (size n : Int) (L : List Sl) (long after t : Int) : Prop where
  late : after ≤ t
  fin : t + long ≤ 1000000
  room : ∀ u, t ≤ u → u < t + long → bk L u + n ≤ size
structure IsFound (size n : Int) (L : List Sl) (long after t : Int) : Prop where
  fit : Fit size n L long after t
  least : ∀ t', Fit size n L long after t' → t ≤ t'
  cand : t = after ∨ ∃ s, s ∈ L ∧ s.to = t
/-- none of the first j gaps is long enough -/
def Short (out : List Sl) (long after : Int) (j : Nat) : Prop := ∀ i g, i < j → out[i]? = some g → ¬ (max g.fr after + long ≤ g.to)
theorem Short.zero (out : List Sl) (long after : Int) : Short out long after 0 := fun i g h => absurd h (by omega)
theorem Short.succ {out : List Sl} {long after : Int} {j : Nat} {g : Sl} (h : Short out long after j) (hj : out[j]? = some g) (hg : ¬ (max g.fr after + long ≤ g.to)) : Short out long after (j + 1) := fun i g' hi hg' => by
  by_cases e : i = j
  · subst e; rw [hj] at hg'; cases hg'; exact hg
  · exact h i g' (by omega) hg'
theorem GapI.cover {size n long after t : Int} {L out : List Sl} (h : GapI size n L out 1000000) (ha : 0 ≤ after) (hl : 1 ≤ long) (hf : Fit size n L long after t) : ∃ g, g ∈ out ∧ g.fr ≤ t ∧ t + long ≤ g.to := by
  have hr := hf.fin
  have hla := hf.late
  obtain ⟨g, hg, g1, g2⟩ := h.all t (by omega) (by omega) (hf.room t (Int.le_refl _) (by omega))
  refine ⟨g, hg, g1, ?_⟩
  rcases h.stop g hg with e | e
  · omega
  · refine Decidable.byContradiction fun hc => ?_
    have := hf.room g.to (by omega) (by omega)
    omega
theorem GapI.none {size n long after : Int} {L out : List Sl} (h : GapI size n L out 1000000) (ha : 0 ≤ after) (hl : 1 ≤ long) (hs : Short out long after out.length) (t : Int) : ¬ Fit size n L long after t := fun hf => by
  obtain ⟨g, hg, g1, g2⟩ := h.cover ha hl hf
  obtain ⟨i, hi, rfl⟩ := List.getElem_of_mem hg
  have := hs i _ hi (List.getElem?_eq_getElem hi)
  have := hf.late
  omega
theorem GapI.found {size n long after : Int} {L out : List Sl} {j : Nat} {g : Sl} (h : GapI size n L out 1000000) (hS : Sane L) (ha : 0 ≤ after) (hl : 1 ≤ long) (hs : Short out long after j) (hj : out[j]? = some g) (hg : max g.fr after + long ≤ g.to) : IsFound size n L long after (max g.fr after) := by
  have hm := List.mem_of_getElem? hj
  have ho := h.ok g hm
  refine ⟨⟨by omega, by omega, fun u h1 h2 => h.fit g hm u (by omega) (by omega)⟩, fun t' hf => ?_, ?_⟩
  · obtain ⟨g', hg', g1, g2⟩ := h.cover ha hl hf
    obtain ⟨i, hi, rfl⟩ := List.getElem_of_mem hg'
    have hla := hf.late
    by_cases h1 : i < j
    · have := hs i _ h1 (List.getElem?_eq_getElem hi)
      omega
    · by_cases h2 : i = j
      · subst h2
        rw [List.getElem?_eq_getElem hi] at hj
        cases hj
        omega
      · obtain ⟨hjl, rfl⟩ := List.getElem?_eq_some_iff.1 hj
        have := List.pairwise_iff_getElem.1 h.inc j i hjl hi (by omega)
        omega
  · by_cases hc : g.fr ≤ after
    · exact .inl (by omega)
    · right
      have h1 := (h.start g hm).resolve_left (by omega)
      have h2 := h.fit g hm g.fr (Int.le_refl _) ho.2.1
      refine Decidable.byContradiction fun hno => ?_
      have h3 : bk L (g.fr - 1) ≤ bk L g.fr := bk_mono fun s hs => by
        have hs1 := hS s hs
        have hs2 : s.to ≠ g.fr := fun e => hno ⟨s, hs, by omega⟩
        unfold on
        split
        · rename_i hc2
          rw [if_pos ⟨by omega, by omega⟩]
          exact Int.le_refl _
        · split <;> omega
      omega
/-- the document's best time, of those that it tries -/
structure IsTime (size n : Int) (L : List Sl) (long after best : Int) : Prop where
  is : best = 2000000 ∨ Fit size n L long after best
  all : ∀ t, (t = after ∨ ∃ s, s ∈ L ∧ s.to = t) → Fit size n L long after t → best ≤ t
theorem IsTime.found {size n long after best t : Int} {L : List Sl} (h : IsTime size n L long after best) (hf : IsFound size n L long after t) (hl : 1 ≤ long) : best = t := by
  have h1 := h.all t hf.cand hf.fit
  have h2 := hf.fit.fin
  rcases h.is with e | e
  · omega
  · have := hf.least best e
    omega
theorem IsTime.none {size n long after best : Int} {L : List Sl} (h : IsTime size n L long after best) (hf : ∀ t, ¬ Fit size n L long after t) : best = 2000000 := h.is.resolve_right (hf best)
structure BestS (size n : Int) (L : List Sl) (long after : Int) (T : List Int) (j : Nat) (best : Int) : Prop where
  is : best = 2000000 ∨ Fit size n L long after best
  all : ∀ i t, i < j → T[i]? = some t → Fit size n L long after t → best ≤ t
theorem BestS.zero (size n : Int) (L : List Sl) (long after : Int) (T : List Int) : BestS size n L long after T 0 2000000 := ⟨.inl rfl, fun i t h => absurd h (by omega)⟩
theorem BestS.skip {size n : Int} {L : List Sl} {long after best t : Int} {T : List Int} {j : Nat} (h : BestS size n L long after T j best) (hj : T[j]? = some t) (hn : Fit size n L long after t → best ≤ t) : BestS size n L long after T (j + 1) best := ⟨h.is, fun i t' hi ht' hf => by
  by_cases e : i = j
  · subst e; rw [hj] at ht'; cases ht'; exact hn hf
  · exact h.all i t' (by omega) ht' hf⟩
theorem BestS.take {size n : Int} {L : List Sl} {long after best t : Int} {T : List Int} {j : Nat} (h : BestS size n L long after T j best) (hj : T[j]? = some t) (hf : Fit size n L long after t) (hb : t < best) : BestS size n L long after T (j + 1) t := ⟨.inr hf, fun i t' hi ht' hf' => by
  by_cases e : i = j
  · subst e; rw [hj] at ht'; cases ht'; exact Int.le_refl _
  · have := h.all i t' (by omega) ht' hf'
    omega⟩
def tries (after : Int) (L : List Sl) : List Int := after :: L.map Sl.to
theorem tries_take {after : Int} {L : List Sl} {j : Nat} {s : Sl} (h : L[j]? = some s) : tries after (L.take (j + 1)) = tries after (L.take j) ++ [s.to] := by
  unfold tries
  rw [List.take_add_one, h]
  simp
theorem BestS.done {size n : Int} {L : List Sl} {long after best : Int} (h : BestS size n L long after (tries after L) (tries after L).length best) : IsTime size n L long after best := ⟨h.is, fun t hc hf => by
  have hm : t ∈ tries after L := by
    unfold tries
    rcases hc with e | ⟨s, hs, e⟩
    · simp [e]
    · exact List.mem_cons_of_mem _ (List.mem_map.2 ⟨s, hs, e⟩)
  obtain ⟨i, hi, rfl⟩ := List.getElem_of_mem hm
  exact h.all i _ hi (List.getElem?_eq_getElem hi) hf⟩
/-- the document's search for the next point -/
structure EndS (L : List Sl) (P : List Int) (t : Int) (j : Nat) (e : Int) : Prop where
  mem : e ∈ P
  lt : t < e
  le : e ≤ 1000000
  all : ∀ i s, i < j → L[i]? = some s → (t < s.fr → e ≤ s.fr) ∧ (t < s.to → e ≤ s.to)
theorem EndS.zero {L : List Sl} {P : List Int} {t : Int} (hP : IsPts L P) (ht : t < 1000000) : EndS L P t 0 1000000 := ⟨(hP.mem _).2 (.inr (.inl rfl)), ht, Int.le_refl _, fun i s h => absurd h (by omega)⟩
/-- the least of e and what is behind t -/
def lower (t e x : Int) : Int := if t < x then min e x else e
theorem EndS.succ {L : List Sl} {P : List Int} {t e : Int} {j : Nat} {s : Sl} (h : EndS L P t j e) (hP : IsPts L P) (hs : L[j]? = some s) : EndS L P t (j + 1) (lower t (lower t e s.fr) s.to) := by
  have hf := (hP.mem s.fr).2 (.inr (.inr ⟨s, List.mem_of_getElem? hs, .inl rfl⟩))
  have hto := (hP.mem s.to).2 (.inr (.inr ⟨s, List.mem_of_getElem? hs, .inr rfl⟩))
  have h1 := h.lt
  have h2 := h.le
  have hmem : ∀ x y : Int, x ∈ P → y ∈ P → lower t x y ∈ P := fun x y hx hy => by
    unfold lower
    split
    · by_cases hc : x ≤ y
      · rw [show min x y = x from by omega]; exact hx
      · rw [show min x y = y from by omega]; exact hy
    · exact hx
  refine ⟨hmem _ _ (hmem _ _ h.mem hf) hto, ?_, ?_, fun i s' hi hs' => ?_⟩
  · unfold lower; (repeat' split) <;> omega
  · unfold lower; (repeat' split) <;> omega
  · by_cases e : i = j
    · subst e
      rw [hs] at hs'
      cases hs'
      unfold lower
      constructor <;> intro _ <;> (repeat' split) <;> omega
    · have := h.all i s' (by omega) hs'
      unfold lower
      constructor <;> intro _ <;> (repeat' split) <;> omega
theorem EndS.done {L : List Sl} {P : List Int} {t e : Int} {i : Nat} (h : EndS L P t L.length e) (hP : IsPts L P) (hS : Sane L) (hi : P[i]? = some t) : NextP P i t e := by
  have hlt := h.lt
  obtain ⟨q, hq⟩ : ∃ q, P[i + 1]? = some q := by
    obtain ⟨j, hj, he⟩ := List.getElem_of_mem h.mem
    by_cases hc : i + 1 < P.length
    · exact ⟨_, List.getElem?_eq_getElem hc⟩
    · have hil := (List.getElem?_eq_some_iff.1 hi).1
      have hj' : P[j]? = some e := by rw [List.getElem?_eq_getElem hj, he]
      by_cases hji : j = i
      · subst hji; rw [hj'] at hi; cases hi; omega
      · have := hP.lt hj' hi (by omega); omega
  have hn : NextP P i t q := ⟨hi, hq⟩
  have h1 := (hP.apart hn h.mem).resolve_left (by omega)
  have htq := hP.lt hi hq (by omega)
  have ht0 := (hP.range hS (List.mem_of_getElem? hi)).1
  have h2 : e ≤ q := by
    rcases (hP.mem q).1 (List.mem_of_getElem? hq) with e1 | e1 | ⟨s, hs, e1⟩
    · omega
    · have := h.le; omega
    · obtain ⟨k, hk, rfl⟩ := List.getElem_of_mem hs
      have := h.all k _ hk (List.getElem?_eq_getElem hk)
      rcases e1 with e1 | e1
      · have := this.1 (by omega); omega
      · have := this.2 (by omega); omega
  obtain rfl : e = q := by omega
  exact hn
theorem IsPts.end' {L : List Sl} {P : List Int} (h : IsPts L P) (hS : Sane L) {i : Nat} (hi : P[i]? = some 1000000) : i = P.length - 1 := by
  have h1 := h.last hS
  have hil := (List.getElem?_eq_some_iff.1 hi).1
  by_cases e : i = P.length - 1
  · exact e
  · have := h.lt hi h1 (by omega)
    omega
end Go.Proofs.Ytfjoakhcgpckgaa.Bk
