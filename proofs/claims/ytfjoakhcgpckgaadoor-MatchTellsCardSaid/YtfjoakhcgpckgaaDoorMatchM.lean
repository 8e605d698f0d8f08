/- Plain facts on pairs: a way along which one more is paired; what can't be reached stays so. -/
import Derived.Test.YtfjoakhcgpckgaaDoorBase
namespace Go.Proofs.YtfjoakhcgpckgaaDoor.Mt
set_option linter.unusedVariables false
/-- who goes with whom, of the other side; -1: nobody -/
abbrev Hs := Nat → Int
def updH (h : Hs) (k : Nat) (i : Nat) : Hs := fun x => if x = k then (i : Int) else h x
/-- pairs are right -/
structure Ok (E : Nat → Nat → Prop) (n m : Nat) (h : Hs) : Prop where
  lo : ∀ x, -1 ≤ h x
  edge : ∀ (x i : Nat), h x = (i : Int) → i < n ∧ x < m ∧ E i x
  inj : ∀ x y, x ≠ y → h x = h y → h x = -1
/-- a way from i through A: along it, h becomes h' -/
inductive Aug (E : Nat → Nat → Prop) (h : Hs) : (Nat → Prop) → Nat → Hs → Prop
  | stop {A : Nat → Prop} {i k : Nat} : A k → E i k → h k = -1 → Aug E h A i (updH h k i)
  | next {A : Nat → Prop} {i k j : Nat} {h1 : Hs} : A k → E i k → h k = (j : Int) → Aug E h (fun x => A x ∧ x ≠ k) j h1 → Aug E h A i (updH h1 k i)
theorem Aug.mono {E : Nat → Nat → Prop} {h h' : Hs} {A B : Nat → Prop} {i : Nat} (g : Aug E h A i h') (hAB : ∀ x, A x → B x) : Aug E h B i h' := by
  induction g generalizing B with
  | stop a e f => exact .stop (hAB _ a) e f
  | next a e f _ ih => exact .next (hAB _ a) e f (ih fun x hx => ⟨hAB _ hx.1, hx.2⟩)
/-- what an augmenting way does -/
structure Does (E : Nat → Nat → Prop) (n m : Nat) (h : Hs) (A : Nat → Prop) (i : Nat) (h' : Hs) : Prop where
  lo : ∀ x, -1 ≤ h' x
  edge : ∀ (x i' : Nat), h' x = (i' : Int) → i' < n ∧ x < m ∧ E i' x
  out : ∀ x, ¬ A x → h' x = h x
  from_ : ∀ x, 0 ≤ h' x → h' x = (i : Int) ∨ ∃ y, h y = h' x
  to_ : ∀ y, 0 ≤ h y → ∃ x, h' x = h y
  has : ∃ x, A x ∧ h' x = (i : Int)
  uniq : ∀ x y, x ≠ y → h' x = h' y → 0 ≤ h' x → h' x = (i : Int) ∧ (¬ A x ∨ ¬ A y)
theorem Aug.does {E : Nat → Nat → Prop} {n m : Nat} {h h' : Hs} {A : Nat → Prop} {i : Nat} (hO : Ok E n m h) (hAm : ∀ x, A x → x < m) (hi : i < n) (hun : ∀ x, h x = (i : Int) → ¬ A x) (g : Aug E h A i h') : Does E n m h A i h' := by
  induction g with
  | @stop A i k a e f =>
    have hk : ∀ x, x ≠ k → updH h k i x = h x := fun x hx => by simp [updH, hx]
    have hkk : updH h k i k = (i : Int) := by simp [updH]
    refine ⟨fun x => ?_, fun x i' hx => ?_, fun x hx => hk x (fun e => hx (by rw [e]; exact a)), fun x hx => ?_, fun y hy => ?_, ⟨k, a, hkk⟩, fun x y hxy he h0 => ?_⟩
    · by_cases e : x = k
      · rw [e, hkk]; omega
      · rw [hk x e]; exact hO.lo x
    · by_cases e2 : x = k
      · subst e2
        rw [hkk] at hx
        obtain rfl : i = i' := by omega
        exact ⟨hi, hAm _ a, e⟩
      · rw [hk x e2] at hx; exact hO.edge x i' hx
    · by_cases e : x = k
      · left; rw [e, hkk]
      · right; exact ⟨x, by rw [hk x e]⟩
    · refine ⟨y, hk y ?_⟩
      intro e; rw [e, f] at hy; omega
    · by_cases ex : x = k
      · subst ex
        have hy := hk y (fun e => hxy e.symm)
        rw [hkk, hy] at he
        exact ⟨hkk, .inr (hun y he.symm)⟩
      · by_cases ey : y = k
        · subst ey
          rw [hkk, hk x ex] at he
          rw [hk x ex]
          exact ⟨he, .inl (hun x he)⟩
        · rw [hk x ex, hk y ey] at he
          rw [hk x ex] at h0
          have := hO.inj x y hxy he
          omega
  | @next A i k j h1 a e f g ih =>
    have hjk := hO.edge k j f
    have hij : i ≠ j := fun e => hun k (by rw [f, e]) a
    have ih := ih (fun x hx => hAm x hx.1) hjk.1 (fun x hx hA => hA.2 (by
      rcases Nat.lt_trichotomy x k with h2 | h2 | h2
      · have := hO.inj x k (by omega) (by rw [hx, f]); rw [hx] at this; omega
      · exact h2
      · have := hO.inj x k (by omega) (by rw [hx, f]); rw [hx] at this; omega))
    have hk : ∀ x, x ≠ k → updH h1 k i x = h1 x := fun x hx => by simp [updH, hx]
    have hkk : updH h1 k i k = (i : Int) := by simp [updH]
    have h1k : h1 k = (j : Int) := (ih.out k (fun hA => hA.2 rfl)).trans f
    refine ⟨fun x => ?_, fun x i' hx => ?_, fun x hx => ?_, fun x hx => ?_, fun y hy => ?_, ⟨k, a, hkk⟩, fun x y hxy he h0 => ?_⟩
    · by_cases e : x = k
      · rw [e, hkk]; omega
      · rw [hk x e]; exact ih.lo x
    · by_cases e2 : x = k
      · subst e2
        rw [hkk] at hx
        obtain rfl : i = i' := by omega
        exact ⟨hi, hAm _ a, e⟩
      · rw [hk x e2] at hx; exact ih.edge x i' hx
    · have hxk : x ≠ k := fun e => hx (by rw [e]; exact a)
      rw [hk x hxk]
      exact ih.out x (fun hA => hx hA.1)
    · by_cases e : x = k
      · left; rw [e, hkk]
      · right
        rw [hk x e] at hx ⊢
        rcases ih.from_ x hx with h2 | h2
        · exact ⟨k, by rw [h2, f]⟩
        · exact h2
    · by_cases ey : h y = (j : Int)
      · obtain ⟨z, hz1, hz2⟩ := ih.has
        exact ⟨z, by rw [hk z hz1.2, hz2, ey]⟩
      · obtain ⟨x, hx⟩ := ih.to_ y hy
        refine ⟨x, ?_⟩
        rw [hk x (fun e => ey (by rw [← hx, e, h1k])), hx]
    · -- no other is y, if h1 y = i
      have key : ∀ y, y ≠ k → h1 y = (i : Int) → ¬ A y := fun y hy e1 hA => by
        rcases ih.from_ y (by rw [e1]; omega) with h2 | ⟨z, hz⟩
        · rw [e1] at h2; omega
        · have hz2 := hun z (by rw [hz, e1])
          have hz3 := ih.out z (fun hA => hz2 hA.1)
          have hyz : y ≠ z := fun e => hz2 (by rw [← e]; exact hA)
          have := (ih.uniq y z hyz (by rw [hz3, hz]) (by rw [e1]; omega)).1
          rw [e1] at this; omega
      by_cases ex : x = k
      · subst ex
        have hy := hk y (fun e => hxy e.symm)
        rw [hkk, hy] at he
        exact ⟨hkk, .inr (key y (fun e => hxy e.symm) he.symm)⟩
      · by_cases ey : y = k
        · subst ey
          rw [hkk, hk x ex] at he
          rw [hk x ex]
          exact ⟨he, .inl (key x ex he)⟩
        · rw [hk x ex, hk y ey] at he
          rw [hk x ex] at h0
          obtain ⟨h2, h3⟩ := ih.uniq x y hxy he h0
          have stay : ∀ z, z ≠ k → ¬ (A z ∧ z ≠ k) → h1 z = (j : Int) → False := fun z hz hA e2 => by
            rw [ih.out z hA] at e2
            have := hO.inj z k hz (by rw [e2, f])
            rw [e2] at this; omega
          rcases h3 with h3 | h3
          · exact (stay x ex h3 h2).elim
          · exact (stay y ey h3 (by rw [← he]; exact h2)).elim
/-- one more is paired -/
theorem Aug.ok {E : Nat → Nat → Prop} {n m : Nat} {h h' : Hs} {A : Nat → Prop} {i : Nat} (hO : Ok E n m h) (hAm : ∀ x, A x → x < m) (hA : ∀ x, x < m → A x) (hi : i < n) (hun : ∀ x, h x ≠ (i : Int)) (g : Aug E h A i h') :
    Ok E n m h' ∧ ∀ i' : Nat, (∃ x, h' x = (i' : Int)) ↔ ((∃ x, h x = (i' : Int)) ∨ i' = i) := by
  have d := g.does hO hAm hi (fun x hx => (hun x hx).elim)
  refine ⟨⟨d.lo, d.edge, fun x y hxy he => ?_⟩, fun i' => ⟨?_, ?_⟩⟩
  · have hl := d.lo x
    rcases Int.lt_or_le (h' x) 0 with h0 | h0
    · omega
    · obtain ⟨e1, e2⟩ := d.uniq x y hxy he h0
      rcases e2 with e2 | e2
      · exact (e2 (hA x (d.edge x i e1).2.1)).elim
      · exact (e2 (hA y (d.edge y i (by rw [← he]; exact e1)).2.1)).elim
  · rintro ⟨x, hx⟩
    rcases d.from_ x (by rw [hx]; omega) with h2 | ⟨y, hy⟩
    · right; rw [hx] at h2; omega
    · left; exact ⟨y, by rw [hy, hx]⟩
  · rintro (⟨y, hy⟩ | rfl)
    · obtain ⟨x, hx⟩ := d.to_ y (by rw [hy]; omega)
      exact ⟨x, by rw [hx, hy]⟩
    · obtain ⟨x, _, hx⟩ := d.has
      exact ⟨x, hx⟩
/-- S is shut: all there are paired, and with such who reach S alone -/
def Shut (E : Nat → Nat → Prop) (h : Hs) (S : Nat → Prop) : Prop := ∀ k, S k → ∃ j : Nat, h k = (j : Int) ∧ ∀ k', E j k' → S k'
theorem Shut.stuck {E : Nat → Nat → Prop} {h h' : Hs} {S A : Nat → Prop} {i : Nat} (hS : Shut E h S) (hi : ∀ k, E i k → S k) (g : Aug E h A i h') : False := by
  induction g with
  | @stop A i k a e f =>
    obtain ⟨j, hj, _⟩ := hS k (hi k e)
    rw [f] at hj; omega
  | @next A i k j h1 a e f g ih =>
    obtain ⟨j', hj, hk⟩ := hS k (hi k e)
    rw [f] at hj
    obtain rfl : j = j' := by omega
    exact ih hk
theorem Shut.kept {E : Nat → Nat → Prop} {h h' : Hs} {S A : Nat → Prop} {i : Nat} (hS : Shut E h S) (g : Aug E h A i h') : ∀ k, S k → h' k = h k := by
  induction g with
  | @stop A i k a e f =>
    intro x hx
    have : x ≠ k := fun e => by
      obtain ⟨j, hj, _⟩ := hS x hx
      rw [e, f] at hj; omega
    simp [updH, this]
  | @next A i k j h1 a e f g ih =>
    intro x hx
    have : x ≠ k := fun e => by
      obtain ⟨j', hj, hk⟩ := hS x hx
      rw [e, f] at hj
      obtain rfl : j = j' := by omega
      exact hS.stuck hk g
    simp only [updH, this, if_false]
    exact ih x hx
theorem Shut.next {E : Nat → Nat → Prop} {h h' : Hs} {S A : Nat → Prop} {i : Nat} (hS : Shut E h S) (g : Aug E h A i h') : Shut E h' S := fun k hk => by
  obtain ⟨j, hj, h2⟩ := hS k hk
  exact ⟨j, by rw [hS.kept g k hk, hj], h2⟩
theorem Shut.or {E : Nat → Nat → Prop} {h : Hs} {S T : Nat → Prop} (hS : Shut E h S) (hT : Shut E h T) : Shut E h (fun k => S k ∨ T k) := fun k hk => by
  rcases hk with hk | hk
  · obtain ⟨j, hj, h2⟩ := hS k hk
    exact ⟨j, hj, fun k' e => .inl (h2 k' e)⟩
  · obtain ⟨j, hj, h2⟩ := hT k hk
    exact ⟨j, hj, fun k' e => .inr (h2 k' e)⟩
/-- behind the first q -/
structure Pairs (E : Nat → Nat → Prop) (n m q : Nat) (h : Hs) : Prop where
  ok : Ok E n m h
  early : ∀ (x i : Nat), h x = (i : Int) → i < q
  shut : ∃ S : Nat → Prop, Shut E h S ∧ ∀ i, i < q → (∀ x, h x ≠ (i : Int)) → ∀ k, E i k → S k
theorem Pairs.start (E : Nat → Nat → Prop) (n m : Nat) : Pairs E n m 0 (fun _ => -1) :=
  ⟨⟨fun _ => Int.le_refl _, fun x i h => by omega, fun _ _ _ _ => rfl⟩, fun x i h => by omega, fun _ => False, fun k h => h.elim, fun i h => by omega⟩
theorem Pairs.yes {E : Nat → Nat → Prop} {n m q : Nat} {h h' : Hs} {A : Nat → Prop} (p : Pairs E n m q h) (hq : q < n) (hAm : ∀ x, A x → x < m) (hA : ∀ x, x < m → A x) (g : Aug E h A q h') : Pairs E n m (q + 1) h' := by
  obtain ⟨k1, k2⟩ := g.ok p.ok hAm hA hq (fun x hx => by have := p.early x q hx; omega)
  obtain ⟨S, hS, h2⟩ := p.shut
  refine ⟨k1, fun x i hx => ?_, S, hS.next g, fun i hi hun => ?_⟩
  · rcases (k2 i).1 ⟨x, hx⟩ with ⟨y, hy⟩ | e
    · have := p.early y i hy; omega
    · omega
  · have hiq : i ≠ q := fun e => by
      obtain ⟨x, hx⟩ := (k2 i).2 (.inr e)
      exact hun x hx
    exact h2 i (by omega) (fun x hx => by
      obtain ⟨y, hy⟩ := (k2 i).2 (.inl ⟨x, hx⟩)
      exact hun y hy)
theorem Pairs.no {E : Nat → Nat → Prop} {n m q : Nat} {h : Hs} {T : Nat → Prop} (p : Pairs E n m q h) (hT : Shut E h T) (hq : ∀ k, E q k → T k) : Pairs E n m (q + 1) h := by
  obtain ⟨S, hS, h2⟩ := p.shut
  refine ⟨p.ok, fun x i hx => by have := p.early x i hx; omega, _, hS.or hT, fun i hi hun k e => ?_⟩
  rcases Nat.lt_or_ge i q with h1 | h1
  · exact .inl (h2 i h1 hun k e)
  · obtain rfl : i = q := by omega
    exact .inr (hq k e)
end Go.Proofs.YtfjoakhcgpckgaaDoor.Mt
