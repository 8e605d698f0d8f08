/- Plain facts: how many there are. -/
import Derived.Test.YtfjoakhcgpckgaaDoorMatchCount
namespace Go.Proofs.YtfjoakhcgpckgaaDoor
set_option linter.unusedVariables false
open Gr (El)
open Mt
def cN (f : Nat → Bool) : Nat → Nat
  | 0 => 0
  | p + 1 => cN f p + (if f p then 1 else 0)
theorem yes_len (f : Nat → Bool) : ∀ p, (Gr.yes f p).length = cN f p
  | 0 => rfl
  | p + 1 => by
    have ih := yes_len f p
    show (if f p then Gr.yes f p ++ [p] else Gr.yes f p).length = cN f p + _
    split
    · rw [List.length_append, ih]; rfl
    · rw [ih]; rfl
theorem cN_congr {f g : Nat → Bool} : ∀ {p}, (∀ i, i < p → f i = g i) → cN f p = cN g p
  | 0, _ => rfl
  | p + 1, h => by unfold cN; rw [cN_congr (p := p) fun i hi => h i (by omega), h p (by omega)]
theorem cN_skip {f : Nat → Bool} {n : Nat} : ∀ {p}, n ≤ p → (∀ i, n ≤ i → f i = false) → cN f p = cN f n
  | 0, h, _ => by obtain rfl : n = 0 := by omega
                  rfl
  | p + 1, h, hf => by
    rcases Nat.lt_or_ge n (p + 1) with h1 | h1
    · show cN f p + (if f p then 1 else 0) = cN f n
      rw [cN_skip (p := p) (by omega) hf, hf p (by omega)]; simp
    · obtain rfl : n = p + 1 := by omega
      rfl
theorem cN_le (f : Nat → Bool) : ∀ p, cN f p ≤ p
  | 0 => Nat.le_refl _
  | p + 1 => by have := cN_le f p; unfold cN; split <;> omega
theorem cN_not (f : Nat → Bool) : ∀ p, cN f p + cN (fun i => !f i) p = p
  | 0 => rfl
  | p + 1 => by
    have ih := cN_not f p
    unfold cN
    cases f p <;> simp <;> omega
theorem cN_split (f g : Nat → Bool) : ∀ {p}, (∀ i, i < p → f i = false → g i = true) → cN g p = cN (fun i => !f i) p + cN (fun i => f i && g i) p
  | 0, _ => rfl
  | p + 1, h => by
    have ih := cN_split f g (p := p) fun i hi => h i (by omega)
    have h1 := h p (by omega)
    unfold cN
    rw [ih]
    cases h2 : f p with
    | true => cases g p <;> simp <;> omega
    | false => rw [h1 h2]; simp; omega
theorem yes_asc (f : Nat → Bool) : ∀ p, (Gr.yes f p).Pairwise (· < ·)
  | 0 => List.Pairwise.nil
  | p + 1 => by
    show (if f p then Gr.yes f p ++ [p] else Gr.yes f p).Pairwise _
    split
    · rw [List.pairwise_append]
      exact ⟨yes_asc f p, List.pairwise_singleton _ _, fun a ha b hb => by
        rw [List.mem_singleton] at hb; subst hb
        exact (Gr.mem_yes.1 ha).1⟩
    · exact yes_asc f p
theorem nodup_len : ∀ {l l' : List Nat}, l.Nodup → (∀ x, x ∈ l → x ∈ l') → l.length ≤ l'.length
  | [], l', _, _ => Nat.zero_le _
  | x :: l, l', hn, hs => by
    rw [List.nodup_cons] at hn
    have h1 := hs x (by simp)
    have h2 := nodup_len (l := l) (l' := l'.erase x) hn.2 (fun y hy => by
      have : y ≠ x := fun e => hn.1 (by rw [← e]; exact hy)
      exact (List.mem_erase_of_ne this).2 (hs y (by simp [hy])))
    rw [List.length_erase_of_mem h1] at h2
    have h3 : 0 < l'.length := List.length_pos_of_mem h1
    simp only [List.length_cons]
    omega
theorem asc_nodup {l : List Nat} (h : l.Pairwise (· < ·)) : l.Nodup := h.imp fun h => Nat.ne_of_lt h
def mt (h : Hs) (m i : Nat) : Bool := decide (outK h m i ≠ -1)
theorem cntO_cN (h : Hs) (m : Nat) : ∀ q, cntO h m q = cN (mt h m) q
  | 0 => rfl
  | q + 1 => by
    have ih := cntO_cN h m q
    unfold cntO cN
    rw [ih]
    by_cases e : outK h m q = -1
    · simp [mt, e]
    · simp [mt, e]
theorem mt_iff {E : Nat → Nat → Prop} {n m : Nat} {h : Hs} (hO : Mt.Ok E n m h) (i : Nat) : mt h m i = true ↔ ∃ x, h x = (i : Int) := by
  unfold mt
  rw [decide_eq_true_eq]
  rcases outK_spec h i m with ⟨h1, h2⟩ | ⟨k, _, h1, h2⟩
  · constructor
    · intro h3; exact (h3 h1).elim
    · rintro ⟨x, hx⟩; exact (h2 x (hO.edge x i hx).2.1 hx).elim
  · constructor
    · intro _; exact ⟨k, h2⟩
    · intro _; omega
theorem reach_len {may : Nat → Nat} {n m lf rt : Nat} {h : Hs} (hn : n ≤ 60) (hm : m ≤ 60) (hO : Mt.Ok (Ed may) n m h) (a : AltE may n m h lf rt) : cN (fun i => lf.testBit i && mt h m i) n = cN rt.testBit m := by
  rw [← yes_len, ← yes_len]
  have hB := yes_asc rt.testBit m
  have key : ∀ k, rt.testBit k = true → ∃ j : Nat, h k = (j : Int) ∧ (h k).toNat = j ∧ j < n ∧ lf.testBit j = true := fun k hk => by
    obtain ⟨hk1, j, hj⟩ := a.r k hk
    have hjn := (hO.edge k j hj).1
    exact ⟨j, hj, by omega, hjn, (a.l j).2 ⟨hjn, .inr ⟨k, hk, hj⟩⟩⟩
  have e : ((Gr.yes rt.testBit m).map fun k => (h k).toNat).length = (Gr.yes rt.testBit m).length := List.length_map ..
  rw [← e]
  apply Nat.le_antisymm
  · refine nodup_len (asc_nodup (yes_asc _ _)) fun i hi => ?_
    obtain ⟨h1, h2⟩ := Gr.mem_yes.1 hi
    simp only [Bool.and_eq_true] at h2
    rcases ((a.l i).1 h2.1).2 with h3 | ⟨k, h3, h4⟩
    · obtain ⟨x, hx⟩ := (mt_iff hO i).1 h2.2
      exact (h3 x hx).elim
    · exact List.mem_map.2 ⟨k, Gr.mem_yes.2 ⟨(a.r k h3).1, h3⟩, by rw [h4]; rfl⟩
  · refine nodup_len ?_ fun i hi => ?_
    · unfold List.Nodup
      rw [List.pairwise_map]
      refine List.Pairwise.imp_of_mem (fun {x y} hx hy hlt => ?_) hB
      obtain ⟨_, hx2⟩ := Gr.mem_yes.1 hx
      obtain ⟨_, hy2⟩ := Gr.mem_yes.1 hy
      obtain ⟨j, hj, ej, _⟩ := key x hx2
      obtain ⟨j', hj', ej', _⟩ := key y hy2
      rw [ej, ej']
      intro e2
      have := hO.inj x y (by omega) (by rw [hj, hj', e2])
      omega
    · obtain ⟨k, hk, rfl⟩ := List.mem_map.1 hi
      obtain ⟨_, hk2⟩ := Gr.mem_yes.1 hk
      obtain ⟨j, hj, ej, hjn, hl⟩ := key k hk2
      rw [ej]
      refine Gr.mem_yes.2 ⟨hjn, ?_⟩
      rw [hl, (mt_iff hO j).2 ⟨k, hj⟩]; rfl
theorem lf_false {may : Nat → Nat} {n m lf rt : Nat} {h : Hs} (a : AltE may n m h lf rt) {i : Nat} (hi : n ≤ i) : lf.testBit i = false := by
  cases hb : lf.testBit i with
  | false => rfl
  | true => have := ((a.l i).1 hb).1; omega
theorem rt_false {may : Nat → Nat} {n m lf rt : Nat} {h : Hs} (a : AltE may n m h lf rt) {i : Nat} (hi : m ≤ i) : rt.testBit i = false := by
  cases hb : rt.testBit i with
  | false => rfl
  | true => have := (a.r i hb).1; omega
/-- a cover is as great as the pairs are many -/
theorem cover_len {may : Nat → Nat} {n m lf rt : Nat} {h : Hs} (hn : n ≤ 60) (hm : m ≤ 60) (hO : Mt.Ok (Ed may) n m h) (a : AltE may n m h lf rt) : (Gr.yes (msk n lf).testBit 64).length + (Gr.yes rt.testBit 64).length = cntO h m n := by
  rw [yes_len, yes_len, cntO_cN, cN_skip (n := m) (by omega) (fun i hi => rt_false a hi), cN_skip (f := (msk n lf).testBit) (n := n) (by omega) (fun i hi => by
    rw [msk_bit hn a.b.1]; have : ¬ i < n := by omega
    simp [this]), cN_split lf.testBit (mt h m) (fun i hi hf => (mt_iff hO i).2 (by
      refine Classical.byContradiction fun hc => ?_
      have := (a.l i).2 ⟨hi, .inl fun x hx => hc ⟨x, hx⟩⟩
      rw [hf] at this; cases this)), reach_len hn hm hO a]
  congr 1
  refine cN_congr fun i hi => ?_
  rw [msk_bit hn a.b.1]
  simp [hi]
theorem all_lf {may : Nat → Nat} {n m lf rt : Nat} {h : Hs} (hn : n ≤ 60) (hO : Mt.Ok (Ed may) n m h) (a : AltE may n m h lf rt) (hc : cntO h m n = n) : Gr.yes lf.testBit 64 = [] := by
  have hall : ∀ i, i < n → mt h m i = true := by
    rw [cntO_cN] at hc
    have h1 := cN_not (mt h m) n
    intro i hi
    cases hb : mt h m i with
    | true => rfl
    | false =>
      have h2 : (Gr.yes (fun i => !mt h m i) n).length = 0 := by rw [yes_len]; omega
      have h3 : i ∈ Gr.yes (fun i => !mt h m i) n := Gr.mem_yes.2 ⟨hi, by rw [hb]; rfl⟩
      rw [List.eq_nil_of_length_eq_zero h2] at h3
      cases h3
  have hz := a.z fun i hi => (mt_iff hO i).1 (hall i hi)
  rw [hz]
  refine List.eq_nil_iff_forall_not_mem.2 fun x hx => ?_
  have := (Gr.mem_yes.1 hx).2
  rw [Nat.zero_testBit] at this; cases this
theorem lack_len {may : Nat → Nat} {n m lf rt : Nat} {h : Hs} {ml : List Nat} (hn : n ≤ 60) (hm : m ≤ 60) (hO : Mt.Ok (Ed may) n m h) (a : AltE may n m h lf rt) (hc : cntO h m n ≠ n) (hd : ml.Nodup) (hs : ∀ y, y ∈ ml → ∃ x, lf.testBit x = true ∧ Ed may x y) : ml.length < (Gr.yes lf.testBit 64).length := by
  have h1 : ml.length ≤ (Gr.yes rt.testBit m).length := nodup_len hd fun y hy => by
    obtain ⟨x, hx, e⟩ := hs y hy
    have := a.e x hx y e
    exact Gr.mem_yes.2 ⟨(a.r y this).1, this⟩
  have h2 := cover_len hn hm hO a
  rw [yes_len, yes_len, cN_skip (n := m) (by omega) (fun i hi => rt_false a hi), cN_skip (f := (msk n lf).testBit) (n := n) (by omega) (fun i hi => by
    rw [msk_bit hn a.b.1]; have : ¬ i < n := by omega
    simp [this]), cN_congr (g := fun i => !lf.testBit i) (fun i hi => by rw [msk_bit hn a.b.1]; simp [hi])] at h2
  have h3 := cN_not lf.testBit n
  have h4 := cntO_le h m n
  rw [yes_len] at h1
  have h2' : cN (fun i => !lf.testBit i) n + cN rt.testBit m = cntO h m n := h2
  have h3' : cN lf.testBit n + cN (fun i => !lf.testBit i) n = n := h3
  rw [yes_len, cN_skip (n := n) (by omega) (fun i hi => lf_false a hi)]
  show ml.length < cN lf.testBit n
  have h1' : ml.length ≤ cN rt.testBit m := h1
  omega
end Go.Proofs.YtfjoakhcgpckgaaDoor
