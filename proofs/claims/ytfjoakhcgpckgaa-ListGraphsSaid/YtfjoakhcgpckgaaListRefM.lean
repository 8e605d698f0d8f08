/- Plain facts: the document's way of seeing a state of jobs at work. -/
import Derived.Test.YtfjoakhcgpckgaaListGraph
namespace Go.Proofs.Ytfjoakhcgpckgaa.Ls
open Gr (El Tm)
set_option linter.unusedVariables false
def atZ (s : St) : Tm := fun i => if s.beg i then s.at_ i else -1
def hdZ (s : St) : Tm := fun i => if s.beg i then (s.hand i : Int) else -1
theorem atZ_on {s : St} {i : Nat} (h : s.beg i = true) : atZ s i = s.at_ i := by simp [atZ, h]
theorem atZ_off {s : St} {i : Nat} (h : s.beg i = false) : atZ s i = -1 := by simp [atZ, h]
theorem hdZ_on {s : St} {i : Nat} (h : s.beg i = true) : hdZ s i = s.hand i := by simp [hdZ, h]
theorem hdZ_off {s : St} {i : Nat} (h : s.beg i = false) : hdZ s i = -1 := by simp [hdZ, h]
theorem atZ_put (s : St) (d : Tm) (i h : Nat) : atZ (s.put d i h) = setN (atZ s) i s.now := by
  funext x
  simp only [atZ, St.put, setN]
  by_cases e : x = i
  · simp [e]
  · simp [e]
theorem hdZ_put (s : St) (d : Tm) (i h : Nat) : hdZ (s.put d i h) = setN (hdZ s) i (h : Int) := by
  funext x
  simp only [hdZ, St.put, setN]
  by_cases e : x = i
  · simp [e]
  · simp [e]
def busyB (d : Tm) (s : St) (k i : Nat) : Bool := hdZ s i == (k : Int) && decide (s.now < atZ s i + d i)
def busyK (d : Tm) (s : St) (k q : Nat) : Bool := (List.range q).any (busyB d s k)
theorem busyK_go (d : Tm) (s : St) (k q : Nat) : busyK d s k (q + 1) = (busyK d s k q || busyB d s k q) := by
  simp [busyK, List.range_succ, List.any_append]
theorem busyK_end {m n : Nat} {d : Tm} {s : St} (H : Inv m n d s) {k : Nat} (hk : k < m) : busyK d s k n = !freeP s k := by
  cases hf : freeP s k with
  | true =>
    have hf' : s.free k ≤ s.now := by simpa [freeP] using hf
    show busyK d s k n = false
    unfold busyK
    rw [List.any_eq_false]
    intro i hi
    have hin := List.mem_range.1 hi
    intro hb
    unfold busyB at hb
    simp only [Bool.and_eq_true, beq_iff_eq, decide_eq_true_eq] at hb
    cases hbg : s.beg i with
    | false => rw [hdZ_off hbg] at hb; omega
    | true =>
      rw [hdZ_on hbg, atZ_on hbg] at hb
      have e : s.hand i = k := by omega
      rcases H.last i hin hbg with h | h
      · omega
      · rw [e] at h; omega
  | false =>
    have hf' : s.now < s.free k := by
      have : ¬ s.free k ≤ s.now := by simpa [freeP] using hf
      omega
    show busyK d s k n = true
    obtain ⟨i, hi, h1, h2, h3⟩ := H.of k hk hf'
    unfold busyK
    rw [List.any_eq_true]
    refine ⟨i, List.mem_range.2 hi, ?_⟩
    unfold busyB
    rw [hdZ_on h1, atZ_on h1]
    simp only [Bool.and_eq_true, beq_iff_eq, decide_eq_true_eq]
    omega
theorem atZ_ge {m n : Nat} {d : Tm} {s : St} (H : Inv m n d s) {i : Nat} (hi : i < n) : decide (atZ s i ≥ 0) = s.beg i := by
  cases hb : s.beg i with
  | false => rw [atZ_off hb]; rfl
  | true => rw [atZ_on hb]; have := (H.at0 i hi hb).1; simp [this]
theorem atZ_lt {m n : Nat} {d : Tm} {s : St} (H : Inv m n d s) {i : Nat} (hi : i < n) : decide (atZ s i < 0) = !s.beg i := by
  cases hb : s.beg i with
  | false => rw [atZ_off hb]; rfl
  | true => rw [atZ_on hb]; have := (H.at0 i hi hb).1; simp; omega
def okQ (L : El) (d : Tm) (s : St) (i q : Nat) : Bool := !((L.take q).any (waitsE d s i))
theorem okQ_go {L : El} {d : Tm} {s : St} {i q : Nat} {x y : Int} (h : L[q]? = some (x, y)) : okQ L d s i (q + 1) = (okQ L d s i q && !waitsE d s i (x, y)) := by
  simp [okQ, List.take_add_one, h, List.any_append]
theorem okQ_end (L : El) (d : Tm) (s : St) (i : Nat) : okQ L d s i L.length = !(L.any (waitsE d s i)) := by simp [okQ]
theorem readyP_on {L : El} {d : Tm} {s : St} {i : Nat} (h : s.beg i = false) : readyP L d s i = !(L.any (waitsE d s i)) := by
  unfold readyP
  rw [h]
  rfl
theorem readyP_off {L : El} {d : Tm} {s : St} {i : Nat} (h : s.beg i = true) : readyP L d s i = false := by simp [readyP, h]
def leftK (s : St) (q : Nat) : Bool := (List.range q).any fun i => !s.beg i
theorem leftK_go (s : St) (q : Nat) : leftK s (q + 1) = (leftK s q || !s.beg q) := by simp [leftK, List.range_succ, List.any_append]
theorem leftK_end (n : Nat) (s : St) : leftK s n = decide (leftN n s ≠ 0) := by
  by_cases h : leftN n s = 0
  · rw [decide_eq_false (by simp [h])]
    unfold leftK
    rw [List.any_eq_false]
    intro i hi
    have := Gr.many_zero h i (List.mem_range.1 hi)
    unfold not' at this
    simp [this]
  · rw [decide_eq_true h]
    unfold leftK
    refine Classical.byContradiction fun hc => h (Gr.many_none fun i hi => ?_)
    rw [List.any_eq_true] at hc
    cases hb : not' s.beg i with
    | false => rfl
    | true => exact (hc ⟨i, List.mem_range.2 hi, hb⟩).elim
def endK (d : Tm) (s : St) (e : Int) : Nat → Int
  | 0 => e
  | q + 1 => if s.beg q then max (endK d s e q) (s.at_ q + d q) else endK d s e q
theorem endK_spec {m n : Nat} {d : Tm} {s : St} (H : Inv m n d s) {e : Int} (h1 : e ≤ s.fin) : ∀ q, q ≤ n → e ≤ endK d s e q ∧ endK d s e q ≤ s.fin ∧ ∀ i, i < q → s.beg i = true → s.at_ i + d i ≤ endK d s e q
  | 0, _ => ⟨Int.le_refl _, h1, fun i hi => absurd hi (by omega)⟩
  | q + 1, hq => by
    obtain ⟨a, b, c⟩ := endK_spec H h1 q (by omega)
    cases hb : s.beg q with
    | false =>
      have e1 : endK d s e (q + 1) = endK d s e q := by simp [endK, hb]
      rw [e1]
      exact ⟨a, b, fun i hi hbi => c i (by
        by_cases e : i = q
        · rw [e, hb] at hbi; cases hbi
        · omega) hbi⟩
    | true =>
      have e1 : endK d s e (q + 1) = max (endK d s e q) (s.at_ q + d q) := by simp [endK, hb]
      have f := H.fin q (by omega) hb
      rw [e1]
      refine ⟨by omega, by omega, fun i hi hbi => ?_⟩
      by_cases e : i = q
      · subst e; omega
      · have := c i (by omega) hbi; omega
theorem endK_end {m n : Nat} {d : Tm} {s : St} (H : Inv m n d s) {e : Int} (h0 : 0 ≤ e) (h1 : e ≤ s.fin) : endK d s e n = s.fin := by
  obtain ⟨a, b, c⟩ := endK_spec H h1 n (Nat.le_refl _)
  rcases H.finE with h | ⟨i, hi, hb, h⟩
  · omega
  · have := c i hi hb; omega
/-- the ends of those that have begun -/
def endG (d : Tm) (s : St) : Nat → Int := fun i => if s.beg i then s.at_ i + d i else s.now
theorem nextT_end {m n : Nat} {d : Tm} {s : St} (H : Inv m n d s) : nextK s.now (endG d s) n = nextI m s := by
  have hg : ∀ i, i < n → s.now < endG d s i → ∃ k, k < m ∧ endG d s i = s.free k := fun i hi hlt => by
    unfold endG at hlt ⊢
    cases hb : s.beg i with
    | false => rw [hb] at hlt; simp at hlt
    | true =>
      rw [hb] at hlt
      simp only [if_true] at hlt ⊢
      rcases H.last i hi hb with h | h
      · omega
      · exact ⟨s.hand i, H.hand i hi hb, h⟩
  have hf : ∀ k, k < m → s.now < s.free k → ∃ i, i < n ∧ endG d s i = s.free k := fun k hk hlt => by
    obtain ⟨i, hi, h1, _, h3⟩ := H.of k hk hlt
    exact ⟨i, hi, by unfold endG; rw [h1]; simp [h3]⟩
  rcases nextK_spec (g := endG d s) H.now0 n with ⟨e1, h1⟩ | ⟨i, hi, a1, e1, h1⟩ <;> rcases nextI_spec H with ⟨e2, h2⟩ | ⟨k, hk, a2, e2, h2⟩
  · rw [e1, e2]
  · obtain ⟨i, hi, e⟩ := hf k hk a2
    have := h1 i hi; omega
  · obtain ⟨k, hk, e⟩ := hg i hi a1
    have := h2 k hk; omega
  · obtain ⟨k', hk', e3⟩ := hg i hi a1
    obtain ⟨i', hi', e4⟩ := hf k hk a2
    have x1 := h1 i' hi' (by omega)
    have x2 := h2 k' hk' (by omega)
    omega
end Go.Proofs.Ytfjoakhcgpckgaa.Ls
