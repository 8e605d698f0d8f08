/- Plain facts: a row of all is one in which whatever is ahead comes first; earliest and latest times; the critical way. -/
import Derived.Test.YtfjoakhcgpckgaaGraphOrder
namespace Go.Proofs.Ytfjoakhcgpckgaa.Gr
set_option linter.unusedVariables false
structure Topo (n : Nat) (L : El) (row : List Nat) : Prop where
  len : row.length = n
  mem : ∀ i, i < n → i ∈ row
  lt : ∀ i, i ∈ row → i < n
  inj : ∀ (s t i : Nat), row[s]? = some i → row[t]? = some i → s = t
  pred : ∀ (t i j : Nat), row[t]? = some i → ed L j i → ∃ s : Nat, s < t ∧ row[s]? = some j
structure TInv (n : Nat) (L : El) (t : Nat) : Prop where
  len : (steps n L t).row.length = t
  left : ∀ i, i < n → ((steps n L t).left i = false ↔ i ∈ (steps n L t).row)
  lt : ∀ i, i ∈ (steps n L t).row → i < n
  inj : ∀ (s u i : Nat), (steps n L t).row[s]? = some i → (steps n L t).row[u]? = some i → s = u
  pred : ∀ (u i j : Nat), (steps n L t).row[u]? = some i → ed L j i → ∃ s : Nat, s < u ∧ (steps n L t).row[s]? = some j
theorem tinv {n : Nat} {L : El} (hO : Ok n L) (hk : knot n L = []) : ∀ t, t ≤ n → TInv n L t
  | 0, _ => ⟨rfl, fun i hi => by simp [steps, hi], fun i hi => by simp [steps] at hi, fun s u i h => by simp [steps] at h, fun u i j h => by simp [steps] at h⟩
  | t + 1, ht => by
    have ih := tinv hO hk t (by omega)
    have hmany : many (steps n L t).left n + t = n := by
      have key : ∀ s, s ≤ t → many (steps n L s).left n + s = n := by
        intro s
        induction s with
        | zero => intro _; rw [many_all]; rfl
        | succ s ihs =>
          intro hs
          have h1 := ihs (by omega)
          have : ∃ i, i < n ∧ (steps n L s).left i = true := by
            refine Classical.byContradiction fun hc => ?_
            have : many (steps n L s).left n = 0 := many_none fun i hi => by
              cases hb : (steps n L s).left i with
              | false => rfl
              | true => exact (hc ⟨i, hi, hb⟩).elim
            omega
          obtain ⟨i, hi, hl⟩ := this
          have hf := some_first hO ((knot_nil hO).1 hk) hi hl
          have := steps_many hO (t := s) rfl hf
          omega
      exact key t (Nat.le_refl _)
    have : ∃ i, i < n ∧ (steps n L t).left i = true := by
      refine Classical.byContradiction fun hc => ?_
      have : many (steps n L t).left n = 0 := many_none fun i hi => by
        cases hb : (steps n L t).left i with
        | false => rfl
        | true => exact (hc ⟨i, hi, hb⟩).elim
      omega
    obtain ⟨i0, hi0, hl0⟩ := this
    have hf := some_first hO ((knot_nil hO).1 hk) hi0 hl0
    obtain ⟨_, _, g3⟩ := first_spec n (okAt L (steps n L t).left)
    have hok := (okAt_iff hO _ _).1 (g3 hf)
    obtain ⟨i, hi⟩ : ∃ i, i = first n (okAt L (steps n L t).left) := ⟨_, rfl⟩
    rw [← hi] at hf hok
    have hrow : (steps n L (t + 1)).row = (steps n L t).row ++ [i] := steps_row hi.symm hf
    have hleft : (steps n L (t + 1)).left = fun x => (steps n L t).left x && decide (x ≠ i) := by
      show (step n L (steps n L t)).left = _
      rw [step_go (by omega), ← hi]
    have hni : i ∉ (steps n L t).row := fun hm => by
      have := (ih.left i hf).2 hm
      rw [hok.1] at this; cases this
    have hat : ∀ (u x : Nat), (steps n L (t + 1)).row[u]? = some x → (u < t ∧ (steps n L t).row[u]? = some x) ∨ (u = t ∧ x = i) := fun u x hu => by
      rw [hrow] at hu
      by_cases h : u < t
      · rw [List.getElem?_append_left (by rw [ih.len]; exact h)] at hu
        exact .inl ⟨h, hu⟩
      · rw [List.getElem?_append_right (by rw [ih.len]; omega), ih.len] at hu
        have h0 : u - t = 0 := by
          have := (List.getElem?_eq_some_iff.1 hu).1
          simp at this; omega
        rw [h0] at hu
        simp at hu
        exact .inr ⟨by omega, hu.symm⟩
    refine ⟨by rw [hrow, List.length_append, ih.len]; rfl, fun x hx => ?_, fun x hx => ?_, fun s u x h1 h2 => ?_, fun u x j h1 h2 => ?_⟩
    · rw [hleft, hrow, List.mem_append, List.mem_singleton]
      have := ih.left x hx
      by_cases e : x = i
      · subst e; simp
      · simp [e]
        rw [← this]
    · rw [hrow] at hx
      rcases List.mem_append.1 hx with h | h
      · exact ih.lt x h
      · simp at h; omega
    · rcases hat s x h1 with ⟨a1, a2⟩ | ⟨a1, a2⟩
      · rcases hat u x h2 with ⟨b1, b2⟩ | ⟨b1, b2⟩
        · exact ih.inj s u x a2 b2
        · subst b2; exact (hni (List.mem_of_getElem? a2)).elim
      · rcases hat u x h2 with ⟨b1, b2⟩ | ⟨b1, b2⟩
        · subst a2; exact (hni (List.mem_of_getElem? b2)).elim
        · omega
    · rcases hat u x h1 with ⟨a1, a2⟩ | ⟨a1, a2⟩
      · obtain ⟨s, hs1, hs2⟩ := ih.pred u x j a2 h2
        exact ⟨s, hs1, by rw [hrow, List.getElem?_append_left (by rw [ih.len]; omega)]; exact hs2⟩
      · subst a2
        have hj := hok.2 j h2
        have hm := (ih.left j (hO.ed h2).1).1 hj
        obtain ⟨s, hs, e⟩ := List.getElem_of_mem hm
        refine ⟨s, by rw [ih.len] at hs; omega, ?_⟩
        rw [hrow, List.getElem?_append_left hs, List.getElem?_eq_getElem hs, e]
theorem topo {n : Nat} {L : El} (hO : Ok n L) (hk : knot n L = []) : Topo n L (steps n L n).row := by
  have h := tinv hO hk n (Nat.le_refl _)
  refine ⟨h.len, fun i hi => ?_, h.lt, h.inj, h.pred⟩
  refine (h.left i hi).1 ?_
  have hz : many (steps n L n).left n = 0 := by
    refine Classical.byContradiction fun hc => ?_
    -- all n things are in the row already
    have key : ∀ m, m ≤ n → many (steps n L m).left n + m = n := by
      intro s
      induction s with
      | zero => intro _; rw [many_all]; rfl
      | succ s ihs =>
        intro hs
        have h1 := ihs (by omega)
        have : ∃ i, i < n ∧ (steps n L s).left i = true := by
          refine Classical.byContradiction fun hc => ?_
          have : many (steps n L s).left n = 0 := many_none fun i hi => by
            cases hb : (steps n L s).left i with
            | false => rfl
            | true => exact (hc ⟨i, hi, hb⟩).elim
          omega
        obtain ⟨i, hi, hl⟩ := this
        have hf := some_first hO ((knot_nil hO).1 hk) hi hl
        have := steps_many hO (t := s) rfl hf
        omega
    have := key n (Nat.le_refl _)
    omega
  exact many_zero hz i hi
/-- induction along the row -/
theorem Topo.ind {n : Nat} {L : El} {row : List Nat} (h : Topo n L row) {P : Nat → Prop} (hp : ∀ i, i < n → (∀ j, ed L j i → P j) → P i) : ∀ i, i < n → P i := by
  have key : ∀ (t i : Nat), row[t]? = some i → P i := by
    intro t
    induction t using Nat.strongRecOn with
    | _ t ih =>
      intro i hi
      refine hp i (h.lt i (List.mem_of_getElem? hi)) fun j hj => ?_
      obtain ⟨s, hs, hs2⟩ := h.pred t i j hi hj
      exact ih s hs j hs2
  intro i hi
  obtain ⟨t, ht, e⟩ := List.getElem_of_mem (h.mem i hi)
  exact key t i (by rw [List.getElem?_eq_getElem ht, e])
/-- .. and against it -/
theorem Topo.dni {n : Nat} {L : El} {row : List Nat} (hO : Ok n L) (h : Topo n L row) {P : Nat → Prop} (hp : ∀ i, i < n → (∀ k, ed L i k → P k) → P i) : ∀ i, i < n → P i := by
  have key : ∀ (m t i : Nat), n - t ≤ m → row[t]? = some i → P i := by
    intro m
    induction m with
    | zero =>
      intro t i hm hi
      have := (List.getElem?_eq_some_iff.1 hi).1
      rw [h.len] at this; omega
    | succ m ih =>
      intro t i hm hi
      refine hp i (h.lt i (List.mem_of_getElem? hi)) fun k hk => ?_
      obtain ⟨u, hu, e⟩ := List.getElem_of_mem (h.mem k (hO.ed hk).2)
      have hu2 : row[u]? = some k := by rw [List.getElem?_eq_getElem hu, e]
      obtain ⟨s, hs, hs2⟩ := h.pred u k i hu2 hk
      have := h.inj s t i hs2 hi
      exact ih u k (by omega) hu2
  intro i hi
  obtain ⟨t, ht, e⟩ := List.getElem_of_mem (h.mem i hi)
  exact key (n - t) t i (Nat.le_refl _) (by rw [List.getElem?_eq_getElem ht, e])
/-! times -/
abbrev Tm := Nat → Int
/-- earliest times -/
structure IsE (n : Nat) (L : El) (d E : Tm) : Prop where
  pos : ∀ i, i < n → 0 ≤ E i
  ge : ∀ i j, ed L j i → E j + d j ≤ E i
  eq : ∀ i, i < n → E i = 0 ∨ ∃ j, ed L j i ∧ E i = E j + d j
/-- latest times -/
structure IsL (n : Nat) (L : El) (d : Tm) (S : Int) (T : Tm) : Prop where
  le : ∀ i, i < n → T i ≤ S - d i
  ge : ∀ i k, ed L i k → T i ≤ T k - d i
  eq : ∀ i, i < n → T i = S - d i ∨ ∃ k, ed L i k ∧ T i = T k - d i
theorem IsE.least {n : Nat} {L : El} {row : List Nat} {d E X : Tm} (hT : Topo n L row) (h : IsE n L d E) (h0 : ∀ i, i < n → 0 ≤ X i) (h1 : ∀ i j, ed L j i → X j + d j ≤ X i) : ∀ i, i < n → E i ≤ X i :=
  hT.ind fun i hi hp => by
    rcases h.eq i hi with e | ⟨j, hj, e⟩
    · rw [e]; exact h0 i hi
    · have a := hp j hj
      have b := h1 i j hj
      omega
theorem IsE.uniq {n : Nat} {L : El} {row : List Nat} {d E X : Tm} (hT : Topo n L row) (h : IsE n L d E) (g : IsE n L d X) : ∀ i, i < n → E i = X i := fun i hi => by
  have a := h.least hT g.pos g.ge i hi
  have b := g.least hT h.pos h.ge i hi
  omega
theorem IsL.most {n : Nat} {L : El} {row : List Nat} {d T X : Tm} {S : Int} (hO : Ok n L) (hT : Topo n L row) (h : IsL n L d S T) (h0 : ∀ i, i < n → X i ≤ S - d i) (h1 : ∀ i k, ed L i k → X i ≤ X k - d i) : ∀ i, i < n → X i ≤ T i :=
  hT.dni hO fun i hi hp => by
    rcases h.eq i hi with e | ⟨k, hk, e⟩
    · rw [e]; exact h0 i hi
    · have a := hp k hk
      have b := h1 i k hk
      omega
theorem IsL.uniq {n : Nat} {L : El} {row : List Nat} {d T X : Tm} {S : Int} (hO : Ok n L) (hT : Topo n L row) (h : IsL n L d S T) (g : IsL n L d S X) : ∀ i, i < n → T i = X i := fun i hi => by
  have a := h.most hO hT g.le g.ge i hi
  have b := g.most hO hT h.le h.ge i hi
  omega
/-- the span: the greatest end -/
structure IsS (n : Nat) (d E : Tm) (S : Int) : Prop where
  pos : 0 ≤ S
  ge : ∀ i, i < n → E i + d i ≤ S
  eq : S = 0 ∨ ∃ i, i < n ∧ E i + d i = S
theorem early_late {n : Nat} {L : El} {row : List Nat} {d E T : Tm} {S : Int} (hO : Ok n L) (hT : Topo n L row) (hE : IsE n L d E) (hS : IsS n d E S) (hL : IsL n L d S T) : ∀ i, i < n → E i ≤ T i :=
  hL.most hO hT (fun i hi => by have := hS.ge i hi; omega) (fun i k hk => by have := hE.ge k i hk; omega)
theorem early_bound {n : Nat} {L : El} {row : List Nat} {d E : Tm} (hT : Topo n L row) (hE : IsE n L d E) {M : Int} (hM : 0 ≤ M) (hd : ∀ i, i < n → d i ≤ M) (hO : Ok n L) : ∀ i, i < n → E i ≤ n * M := by
  have key : ∀ (t i : Nat), row[t]? = some i → E i ≤ t * M := by
    intro t
    induction t using Nat.strongRecOn with
    | _ t ih =>
      intro i hi
      rcases hE.eq i (hT.lt i (List.mem_of_getElem? hi)) with e | ⟨j, hj, e⟩
      · rw [e]; exact Int.mul_nonneg (by omega) hM
      · obtain ⟨s, hs, hs2⟩ := hT.pred t i j hi hj
        have a := ih s hs j hs2
        have b := hd j (hO.ed hj).1
        have c : ((s : Int) + 1) * M ≤ (t : Int) * M := Int.mul_le_mul_of_nonneg_right (by omega) hM
        rw [Int.add_mul] at c
        omega
  intro i hi
  obtain ⟨t, ht, e⟩ := List.getElem_of_mem (hT.mem i hi)
  have a := key t i (by rw [List.getElem?_eq_getElem ht, e])
  have c : (t : Int) * M ≤ (n : Int) * M := Int.mul_le_mul_of_nonneg_right (by rw [hT.len] at ht; omega) hM
  omega
/-- the way begins .. -/
theorem way_start {n : Nat} {L : El} {row : List Nat} {d E T : Tm} {S : Int} (hO : Ok n L) (hT : Topo n L row) (hE : IsE n L d E) (hS : IsS n d E S) (hL : IsL n L d S T) (hd : ∀ i, i < n → 0 ≤ d i) (hn : 0 < n) : ∃ i, i < n ∧ E i = 0 ∧ T i = 0 := by
  have hback : ∀ i, i < n → E i = T i → ∃ j, j < n ∧ E j = 0 ∧ T j = 0 := hT.ind fun i hi hp he => by
    rcases hE.eq i hi with e | ⟨j, hj, e⟩
    · exact ⟨i, hi, e, by omega⟩
    · have hj1 := (hO.ed hj).1
      have a := hL.ge j i hj
      have b := early_late hO hT hE hS hL j hj1
      exact hp j hj (by omega)
  rcases hS.eq with e | ⟨i, hi, e⟩
  · have a := hE.pos 0 hn
    have b := hS.ge 0 hn
    have c := hd 0 hn
    have x := hL.le 0 hn
    have y := early_late hO hT hE hS hL 0 hn
    exact ⟨0, hn, by omega, by omega⟩
  · have x := hL.le i hi
    have y := early_late hO hT hE hS hL i hi
    exact hback i hi (by omega)
/-- .. and goes on -/
theorem way_next {n : Nat} {L : El} {row : List Nat} {d E T : Tm} {S : Int} (hO : Ok n L) (hT : Topo n L row) (hE : IsE n L d E) (hS : IsS n d E S) (hL : IsL n L d S T) {i : Nat} (hi : i < n) (he : E i = T i) (hs : E i + d i ≠ S) : ∃ k, k < n ∧ ed L i k ∧ E k = E i + d i ∧ T k = E i + d i := by
  rcases hL.eq i hi with e | ⟨k, hk, e⟩
  · omega
  · have a := hE.ge k i hk
    have b := early_late hO hT hE hS hL k (hO.ed hk).2
    exact ⟨k, (hO.ed hk).2, hk, by omega, by omega⟩
end Go.Proofs.Ytfjoakhcgpckgaa.Gr
