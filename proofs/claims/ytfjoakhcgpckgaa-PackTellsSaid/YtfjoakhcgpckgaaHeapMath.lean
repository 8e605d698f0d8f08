/- Plain facts: a heap of things that wait: who is ahead, places that change, up and down. -/
import Derived.Test.YtfjoakhcgpckgaaBase
namespace Go.Proofs.Ytfjoakhcgpckgaa.Hp
set_option linter.unusedVariables false
/-- a thing that waits -/
structure Th where
  prio : Int
  id : Int
  born : Int
  blk : Nat
/-- is one ahead of another one? -/
def ahd (a b : Th) : Bool := decide (b.prio < a.prio) || (a.prio == b.prio && decide (a.born < b.born))
theorem ahd_iff {a b : Th} : ahd a b = true ↔ b.prio < a.prio ∨ (a.prio = b.prio ∧ a.born < b.born) := by simp [ahd]
theorem ahd_not {a b : Th} : ahd a b = false ↔ a.prio < b.prio ∨ (a.prio = b.prio ∧ b.born ≤ a.born) := by
  rw [← Bool.not_eq_true, ahd_iff]
  omega
/-- not behind: b is not ahead of a -/
def le (a b : Th) : Prop := ahd b a = false
theorem le_refl (a : Th) : le a a := by unfold le; rw [ahd_not]; omega
theorem le_trans {a b c : Th} (h1 : le a b) (h2 : le b c) : le a c := by
  unfold le at *
  rw [ahd_not] at *
  omega
theorem le_total (a b : Th) : le a b ∨ le b a := by
  unfold le
  rw [ahd_not, ahd_not]
  omega
theorem le_of_ahd {a b : Th} (h : ahd a b = true) : le a b := by
  unfold le
  rw [ahd_not]
  rw [ahd_iff] at h
  omega
theorem ahd_of_not_le {a b : Th} (h : ¬ le a b) : ahd b a = true := by
  unfold le at h
  cases hb : ahd b a with
  | false => exact (h hb).elim
  | true => rfl
/-- two places change places -/
def swp (ts : List Th) (i j : Nat) : List Th := match ts[i]?, ts[j]? with
  | some a, some b => (ts.set i b).set j a
  | _, _ => ts
theorem swp_eq {ts : List Th} {i j : Nat} {a b : Th} (ha : ts[i]? = some a) (hb : ts[j]? = some b) : swp ts i j = (ts.set i b).set j a := by simp [swp, ha, hb]
theorem swp_length (ts : List Th) (i j : Nat) : (swp ts i j).length = ts.length := by
  unfold swp
  split <;> simp
theorem swp_perm (ts : List Th) (i j : Nat) : (swp ts i j).Perm ts := by
  unfold swp
  split
  · rename_i a b ha hb
    obtain ⟨hi, rfl⟩ := List.getElem?_eq_some_iff.1 ha
    obtain ⟨hj, rfl⟩ := List.getElem?_eq_some_iff.1 hb
    exact List.set_set_perm hi hj
  · exact List.Perm.refl _
theorem swp_at {ts : List Th} {i j : Nat} {a b : Th} (ha : ts[i]? = some a) (hb : ts[j]? = some b) (k : Nat) : (swp ts i j)[k]? = if k = j then some a else if k = i then some b else ts[k]? := by
  have hi := (List.getElem?_eq_some_iff.1 ha).1
  have hj := (List.getElem?_eq_some_iff.1 hb).1
  rw [swp_eq ha hb, List.getElem?_set]
  by_cases e1 : j = k
  · subst e1
    simp [hj]
  · rw [if_neg e1, if_neg (fun e => e1 e.symm), List.getElem?_set]
    by_cases e2 : i = k
    · subst e2
      simp [hi]
    · rw [if_neg e2, if_neg (fun e => e2 e.symm)]
/-- within the first n, each but those below `but` are in order with what is above them -/
def par (i : Nat) : Nat := (i - 1) / 2
theorem par_lt {i : Nat} (h : 0 < i) : par i < i := by unfold par; omega
/-- a heap of the first n -/
def Heap (ts : List Th) (n : Nat) : Prop := ∀ (i : Nat) (a b : Th), 0 < i → i < n → ts[i]? = some a → ts[par i]? = some b → le b a
/-- a heap, but that j may be too far down -/
structure UpH (ts : List Th) (n j : Nat) : Prop where
  rest : ∀ (i : Nat) (a b : Th), 0 < i → i < n → i ≠ j → ts[i]? = some a → ts[par i]? = some b → le b a
  over : ∀ (i : Nat) (a b : Th), 0 < i → i < n → par i = j → 0 < j → ts[i]? = some a → ts[par j]? = some b → le b a
theorem UpH.stop {ts : List Th} {n j : Nat} (h : UpH ts n j) (hs : j = 0 ∨ ∀ a b, ts[j]? = some a → ts[par j]? = some b → le b a) : Heap ts n := fun i a b h0 hi ha hb => by
  by_cases e : i = j
  · subst e
    rcases hs with h1 | h1
    · omega
    · exact h1 a b ha hb
  · exact h.rest i a b h0 hi e ha hb
theorem UpH.go {ts : List Th} {n j : Nat} (hn : n ≤ ts.length) (h : UpH ts n j) (hj : 0 < j) (hjn : j < n) {a b : Th} (ha : ts[j]? = some a) (hb : ts[par j]? = some b) (hl : ahd a b = true) : UpH (swp ts (par j) j) n (par j) := by
  have hp := par_lt hj
  have hab := le_of_ahd hl
  refine ⟨fun i x y h0 hi hne hx hy => ?_, fun i x y h0 hi hpi hpj hx hy => ?_⟩
  · rw [swp_at hb ha] at hx hy
    by_cases e1 : i = j
    · subst e1
      rw [if_pos rfl] at hx
      rw [if_neg (by omega), if_pos rfl] at hy
      cases hx; cases hy
      exact hab
    · rw [if_neg e1, if_neg hne] at hx
      by_cases e2 : par i = j
      · rw [if_pos e2] at hy
        cases hy
        exact h.over i x b h0 hi e2 hj hx hb
      · rw [if_neg e2] at hy
        by_cases e3 : par i = par j
        · rw [if_pos e3] at hy
          cases hy
          have := h.rest i x b h0 hi e1 hx (by rw [e3]; exact hb)
          exact le_trans hab this
        · rw [if_neg e3] at hy
          exact h.rest i x y h0 hi e1 hx hy
  · rw [swp_at hb ha] at hx hy
    have hpp : par (par j) < par j := par_lt hpj
    rw [if_neg (by omega), if_neg (by omega)] at hy
    have hy2 : le y b := h.rest (par j) b y hpj (by omega) (by omega) hb hy
    by_cases e1 : i = j
    · subst e1
      rw [if_pos rfl] at hx
      cases hx
      exact hy2
    · have e0 : i ≠ par j := fun e => by
        have := par_lt h0
        omega
      rw [if_neg e1, if_neg e0] at hx
      have := h.rest i x b h0 hi e1 hx (by rw [hpi]; exact hb)
      exact le_trans hy2 this
/-- a heap, but that i may be too far up -/
structure DnH (ts : List Th) (n i : Nat) : Prop where
  rest : ∀ (k : Nat) (a b : Th), 0 < k → k < n → par k ≠ i → ts[k]? = some a → ts[par k]? = some b → le b a
  over : ∀ (k : Nat) (a b : Th), 0 < k → k < n → par k = i → 0 < i → ts[k]? = some a → ts[par i]? = some b → le b a
theorem DnH.stop {ts : List Th} {n i : Nat} (h : DnH ts n i) (hs : ∀ (k : Nat) (a b : Th), 0 < k → k < n → par k = i → ts[k]? = some a → ts[i]? = some b → le b a) : Heap ts n := fun k a b h0 hk ha hb => by
  by_cases e : par k = i
  · exact hs k a b h0 hk e ha (by rw [← e]; exact hb)
  · exact h.rest k a b h0 hk e ha hb
/-- one step down: c is the lesser of the two below i, and ahead of it -/
theorem DnH.go {ts : List Th} {n i c : Nat} (hn : n ≤ ts.length) (h : DnH ts n i) (hc0 : 0 < c) (hcn : c < n) (hpc : par c = i) {a x : Th} (ha : ts[i]? = some a) (hx : ts[c]? = some x)
    (hl : ahd x a = true) (hmin : ∀ (k : Nat) (y : Th), 0 < k → k < n → par k = i → ts[k]? = some y → le x y) : DnH (swp ts i c) n c := by
  have hic : i < c := by have := par_lt hc0; omega
  have hxa := le_of_ahd hl
  refine ⟨fun k p q h0 hk hne hp hq => ?_, fun k p q h0 hk hpk hc hp hq => ?_⟩
  · rw [swp_at ha hx] at hp hq
    by_cases e1 : k = c
    · subst e1
      rw [if_pos rfl] at hp
      rw [if_neg (by omega), if_pos hpc] at hq
      cases hp; cases hq
      exact hxa
    · rw [if_neg e1] at hp
      rw [if_neg hne] at hq
      by_cases e2 : par k = i
      · rw [if_pos e2] at hq
        cases hq
        have e3 : k ≠ i := by have := par_lt h0; omega
        rw [if_neg e3] at hp
        exact hmin k p h0 hk e2 hp
      · rw [if_neg e2] at hq
        by_cases e3 : k = i
        · subst e3
          rw [if_pos rfl] at hp
          cases hp
          have := h.over c x q hc0 hcn hpc h0 hx hq
          exact this
        · rw [if_neg e3] at hp
          exact h.rest k p q h0 hk e2 hp hq
  · rw [swp_at ha hx] at hp hq
    have e1 : k ≠ c := by have := par_lt h0; omega
    have e2 : k ≠ i := by have := par_lt h0; omega
    rw [if_neg e1, if_neg e2] at hp
    rw [hpc, if_neg (by omega), if_pos rfl] at hq
    cases hq
    exact h.rest k p x h0 hk (by omega) hp (by rw [hpk]; exact hx)
/-- the first of a heap is behind none -/
theorem Heap.first {ts : List Th} {n : Nat} (hn : n ≤ ts.length) (h : Heap ts n) {a : Th} (h0 : ts[0]? = some a) : ∀ (i : Nat) (b : Th), i < n → ts[i]? = some b → le a b := by
  intro i
  induction i using Nat.strongRecOn with
  | _ i ih =>
    intro b hi hb
    by_cases e : i = 0
    · subst e
      rw [h0] at hb
      cases hb
      exact le_refl _
    · have hp := par_lt (show 0 < i by omega)
      have hpl : par i < ts.length := by omega
      have hpe : ts[par i]? = some ts[par i] := List.getElem?_eq_getElem hpl
      exact le_trans (ih (par i) hp _ (by omega) hpe) (h i b _ (by omega) hi hb hpe)
end Go.Proofs.Ytfjoakhcgpckgaa.Hp
