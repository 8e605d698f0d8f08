/- Plain facts: the fewest boxes. -/
import Derived.Test.YtfjoakhcgpckgaaPackM
namespace Go.Proofs.Ytfjoakhcgpckgaa.Wk
set_option linter.unusedVariables false
theorem ldP_app (f : Nat → Int) : ∀ A B : List (Nat × Int), ldP f (A ++ B) = ldP (ldP f A) B
  | [], B => rfl
  | p :: A, B => ldP_app (put f p.1 p.2) A B
theorem ldP_ge : ∀ (P : List (Nat × Int)) (f : Nat → Int), (∀ p, p ∈ P → 0 ≤ p.2) → ∀ i, f i ≤ ldP f P i
  | [], f, _, i => Int.le_refl _
  | p :: P, f, h, i => Int.le_trans (put_ge (h p (by simp)) i) (ldP_ge P _ (fun q hq => h q (by simp [hq])) i)
theorem perm_snd {P : List (Nat × Int)} {x : Int} {D : List Int} (h : (P.map (·.2)).Perm (x :: D)) : ∃ a P', P.Perm ((a, x) :: P') ∧ (P'.map (·.2)).Perm D := by
  have hx : x ∈ P.map (·.2) := h.mem_iff.2 (by simp)
  obtain ⟨p, hp, rfl⟩ := List.mem_map.1 hx
  have h1 := List.perm_cons_erase hp
  refine ⟨p.1, P.erase p, h1, ?_⟩
  have h2 := (h1.map (·.2)).symm.trans h
  simpa using h2
theorem align {P : List (Nat × Int)} : ∀ {D : List Int}, (P.map (·.2)).Perm D → ∃ Q : List (Nat × Int), P.Perm Q ∧ Q.map (·.2) = D := by
  intro D
  induction D generalizing P with
  | nil =>
    intro h
    have : P = [] := by simpa using h.eq_nil
    subst this
    exact ⟨[], List.Perm.refl _, rfl⟩
  | cons x D ih =>
    intro h
    obtain ⟨a, P', h1, h2⟩ := perm_snd h
    obtain ⟨Q, h3, h4⟩ := ih h2
    exact ⟨(a, x) :: Q, h1.trans (h3.cons _), by simp [h4]⟩
/-- D goes into c boxes, in which f lies -/
def FitF (size : Int) (f : Nat → Int) (D : List Int) (c : Nat) : Prop :=
  ∃ P : List (Nat × Int), (P.map (·.2)).Perm D ∧ (∀ p, p ∈ P → p.1 < c) ∧ ∀ b, ldP f P b ≤ size
theorem FitF.cons {size : Int} {f : Nat → Int} {x : Int} {D : List Int} {c a : Nat} (h : FitF size (put f a x) D c) (ha : a < c) : FitF size f (x :: D) c := by
  obtain ⟨P, h1, h2, h3⟩ := h
  refine ⟨(a, x) :: P, by simpa using h1, fun p hp => ?_, h3⟩
  rcases List.mem_cons.1 hp with rfl | hp
  · exact ha
  · exact h2 p hp
theorem FitF.uncons {size : Int} {f : Nat → Int} {x : Int} {D : List Int} {c : Nat} (h : FitF size f (x :: D) c) : ∃ a, a < c ∧ FitF size (put f a x) D c := by
  obtain ⟨P, h1, h2, h3⟩ := h
  obtain ⟨a, P', h4, h5⟩ := perm_snd h1
  refine ⟨a, h2 (a, x) (h4.mem_iff.2 (by simp)), P', h5, fun p hp => h2 p (h4.mem_iff.2 (by simp [hp])), fun b => ?_⟩
  have := h3 b
  rwa [ldP_perm h4] at this
theorem FitF.room {size : Int} {f : Nat → Int} {D : List Int} {c : Nat} (hD : ∀ x, x ∈ D → 0 ≤ x) (h : FitF size f D c) (b : Nat) : f b ≤ size := by
  obtain ⟨P, h1, h2, h3⟩ := h
  exact Int.le_trans (ldP_ge P f (fun p hp => hD _ (h1.mem_iff.1 (List.mem_map_of_mem hp))) b) (h3 b)
theorem ldP_sw (j k : Nat) : ∀ (P : List (Nat × Int)) (f : Nat → Int), ldP (fun i => f (sw j k i)) (P.map fun p => (sw j k p.1, p.2)) = fun i => ldP f P (sw j k i)
  | [], f => rfl
  | p :: P, f => by
    show ldP (put (fun i => f (sw j k i)) (sw j k p.1) p.2) (P.map fun p => (sw j k p.1, p.2)) = _
    rw [put_sw, ldP_sw j k P]
    rfl
theorem FitF.swap {size : Int} {f : Nat → Int} {x : Int} {D : List Int} {c j k : Nat} (h : FitF size (put f j x) D c) (hj : j < c) (hk : k < c) (he : f j = f k) : FitF size (put f k x) D c := by
  obtain ⟨P, h1, h2, h3⟩ := h
  have e1 : (fun i => f (sw j k i)) = f := by
    funext i
    unfold sw
    by_cases h2 : i = j
    · subst h2; rw [if_pos rfl]; exact he.symm
    · rw [if_neg h2]
      by_cases h3 : i = k
      · subst h3; rw [if_pos rfl]; exact he
      · rw [if_neg h3]
  have e2 : sw j k j = k := by unfold sw; rw [if_pos rfl]
  refine ⟨P.map fun p => (sw j k p.1, p.2), ?_, fun p hp => ?_, fun b => ?_⟩
  · rw [List.map_map]; exact h1
  · obtain ⟨q, hq, rfl⟩ := List.mem_map.1 hp
    exact sw_lt hj hk (h2 q hq)
  · have e3 := ldP_sw j k P (put f j x)
    rw [← put_sw, e1, e2] at e3
    rw [e3]
    exact h3 _
structure Lst (size : Int) (f : Nat → Int) (cnt : Nat) (D : List Int) (best r : Nat) : Prop where
  le : r ≤ best
  all : ∀ c, cnt ≤ c → FitF size f D c → r ≤ c
  is : r = best ∨ (cnt ≤ r ∧ FitF size f D r)
theorem Lst.cut {size : Int} {f : Nat → Int} {cnt : Nat} {D : List Int} {best : Nat} (h : best ≤ cnt) : Lst size f cnt D best best := ⟨Nat.le_refl _, fun c hc _ => by omega, .inl rfl⟩
theorem Lst.nil {size : Int} {f : Nat → Int} {cnt : Nat} {best : Nat} (h : cnt < best) (hf : ∀ b, f b ≤ size) : Lst size f cnt [] best cnt :=
  ⟨by omega, fun c hc _ => hc, .inr ⟨Nat.le_refl _, [], List.Perm.refl _, fun p hp => by simp at hp, hf⟩⟩
structure TrP (size : Int) (f : Nat → Int) (cnt : Nat) (x : Int) (D : List Int) (best k r : Nat) : Prop where
  le : r ≤ best
  all : ∀ a c, a < k → cnt ≤ c → FitF size (put f a x) D c → r ≤ c
  is : r = best ∨ (cnt ≤ r ∧ FitF size f (x :: D) r)
theorem TrP.start {size : Int} {f : Nat → Int} {cnt : Nat} {x : Int} {D : List Int} {best : Nat} : TrP size f cnt x D best 0 best := ⟨Nat.le_refl _, fun a c h => by omega, .inl rfl⟩
theorem TrP.step {size : Int} {f : Nat → Int} {cnt : Nat} {x : Int} {D : List Int} {best k r r' : Nat} (h : TrP size f cnt x D best k r) (hk : k < cnt) (hl : Lst size (put f k x) cnt D r r') : TrP size f cnt x D best (k + 1) r' := by
  refine ⟨Nat.le_trans hl.le h.le, fun a c ha hc hf => ?_, ?_⟩
  · rcases Nat.lt_or_ge a k with h1 | h1
    · exact Nat.le_trans hl.le (h.all a c h1 hc hf)
    · obtain rfl : a = k := by omega
      exact hl.all c hc hf
  · rcases hl.is with e | ⟨e1, e2⟩
    · rw [e]; exact h.is
    · exact .inr ⟨e1, e2.cons (by omega)⟩
theorem TrP.no {size : Int} {f : Nat → Int} {cnt : Nat} {x : Int} {D : List Int} {best k r : Nat} (hD : ∀ y, y ∈ D → 0 ≤ y) (h : TrP size f cnt x D best k r) (hx : ¬ f k + x ≤ size) : TrP size f cnt x D best (k + 1) r := by
  refine ⟨h.le, fun a c ha hc hf => ?_, h.is⟩
  rcases Nat.lt_or_ge a k with h1 | h1
  · exact h.all a c h1 hc hf
  · obtain rfl : a = k := by omega
    have := hf.room hD a
    simp only [put, if_true] at this
    exact (hx this).elim
theorem TrP.done {size : Int} {f : Nat → Int} {cnt : Nat} {x : Int} {D : List Int} {best r r' : Nat} (h : TrP size f cnt x D best cnt r) (h0 : ∀ b, cnt ≤ b → f b = 0) (hl : Lst size (put f cnt x) (cnt + 1) D r r') : Lst size f cnt (x :: D) best r' := by
  refine ⟨Nat.le_trans hl.le h.le, fun c hc hf => ?_, ?_⟩
  · obtain ⟨a, ha, hf2⟩ := hf.uncons
    rcases Nat.lt_or_ge a cnt with h1 | h1
    · exact Nat.le_trans hl.le (h.all a c h1 hc hf2)
    · exact hl.all c (by omega) (hf2.swap ha (by omega) (by rw [h0 a h1, h0 cnt (Nat.le_refl _)]))
  · rcases hl.is with e | ⟨e1, e2⟩
    · rw [e]; exact h.is
    · exact .inr ⟨by omega, e2.cons (by omega)⟩
/-- r boxes do, and fewer don't -/
structure Few (size : Int) (D : List Int) (r : Nat) : Prop where
  fit : FitF size (fun _ => 0) D r
  all : ∀ c, FitF size (fun _ => 0) D c → r ≤ c
theorem Few.uniq {size : Int} {D : List Int} {r r' : Nat} (h : Few size D r) (h' : Few size D r') : r = r' := Nat.le_antisymm (h.all r' h'.fit) (h'.all r h.fit)
theorem fit_all {size : Int} : ∀ (D : List Int) (f : Nat → Int) (k : Nat), (∀ x, x ∈ D → x ≤ size) → (∀ b, k ≤ b → f b = 0) → (∀ b, f b ≤ size) → FitF size f D (k + D.length)
  | [], f, k, _, _, hf => ⟨[], List.Perm.refl _, fun p hp => by simp at hp, hf⟩
  | x :: D, f, k, hD, h0, hf => by
    have h1 := fit_all D (put f k x) (k + 1) (fun y hy => hD y (by simp [hy])) (fun b hb => by
      have h2 : ¬ b = k := by omega
      simp only [put, h2, if_false]
      exact h0 b (by omega)) (fun b => by
      by_cases h2 : b = k
      · subst h2
        simp only [put, if_true, h0 b (Nat.le_refl _)]
        have := hD x (by simp)
        omega
      · simp only [put, h2, if_false]; exact hf b)
    have h2 := FitF.cons h1 (by omega)
    rwa [show k + 1 + D.length = k + (x :: D).length from by simp; omega] at h2
theorem Lst.few {size : Int} {D : List Int} {r : Nat} (h0 : 0 ≤ size) (hD : ∀ x, x ∈ D → x ≤ size) (h : Lst size (fun _ => 0) 0 D (D.length + 1) r) : Few size D r := by
  have h1 := fit_all D (fun _ => 0) 0 hD (fun _ _ => rfl) (fun _ => h0)
  rw [Nat.zero_add] at h1
  have h2 := h.all _ (Nat.zero_le _) h1
  refine ⟨?_, fun c hc => h.all c (Nat.zero_le _) hc⟩
  rcases h.is with e | e
  · omega
  · exact e.2
/-- those whose bits are in s; and the others -/
def ins : Nat → List Int → List Int
  | _, [] => []
  | s, y :: ys => if s % 2 = 1 then y :: ins (s / 2) ys else ins (s / 2) ys
def outs : Nat → List Int → List Int
  | _, [] => []
  | s, y :: ys => if s % 2 = 1 then outs (s / 2) ys else y :: outs (s / 2) ys
theorem ins_outs : ∀ (ys : List Int) (s : Nat), ys.Perm (ins s ys ++ outs s ys)
  | [], s => List.Perm.refl _
  | y :: ys, s => by
    have ih := ins_outs ys (s / 2)
    unfold ins outs
    split
    · exact ih.cons y
    · exact (ih.cons y).trans List.perm_middle.symm
theorem ins_snoc : ∀ (ys : List Int) (s q : Nat) (y : Int), ys[q]? = some y → ins s (ys.take (q + 1)) = ins s (ys.take q) ++ (if s / 2 ^ q % 2 = 1 then [y] else []) ∧ outs s (ys.take (q + 1)) = outs s (ys.take q) ++ (if s / 2 ^ q % 2 = 1 then [] else [y])
  | [], s, q, y, h => by simp at h
  | z :: ys, s, 0, y, h => by
    simp only [List.getElem?_cons_zero, Option.some.injEq] at h
    subst h
    simp only [Nat.zero_add, List.take_succ_cons, List.take_zero, ins, outs, Nat.pow_zero, Nat.div_one]
    split <;> simp
  | z :: ys, s, q + 1, y, h => by
    simp only [List.getElem?_cons_succ] at h
    obtain ⟨h1, h2⟩ := ins_snoc ys (s / 2) q y h
    simp only [List.take_succ_cons, ins, outs]
    have e : s / 2 / 2 ^ q = s / 2 ^ (q + 1) := by rw [Nat.div_div_eq_div_mul, Nat.pow_succ, Nat.mul_comm]
    rw [e] at h1 h2
    rw [h1, h2]
    split <;> simp
theorem outs_mem {ys : List Int} {s : Nat} {y : Int} (h : y ∈ outs s ys) : y ∈ ys := (ins_outs ys s).mem_iff.2 (List.mem_append_right _ h)
theorem ins_mem {ys : List Int} {s : Nat} {y : Int} (h : y ∈ ins s ys) : y ∈ ys := (ins_outs ys s).mem_iff.2 (List.mem_append_left _ h)
theorem outs_length (ys : List Int) (s : Nat) : (outs s ys).length ≤ ys.length := by
  have := (ins_outs ys s).length_eq
  rw [List.length_append] at this; omega
theorem ldP_zero (L : List Int) (f : Nat → Int) : ldP f (L.map fun y => (0, y)) = fun b => if b = 0 then f 0 + L.sum else f b := by
  induction L generalizing f with
  | nil => funext b; simp [ldP]; intro e; rw [e]
  | cons y L ih =>
    show ldP (put f 0 y) (L.map fun y => (0, y)) = _
    rw [ih]
    funext b
    by_cases e : b = 0
    · subst e; simp [put]; omega
    · simp [put, e]
theorem ldP_shift : ∀ (P : List (Nat × Int)) (f : Nat → Int) (b : Nat), ldP f (P.map fun p => (p.1 + 1, p.2)) 0 = f 0 ∧ ldP f (P.map fun p => (p.1 + 1, p.2)) (b + 1) = ldP (fun i => f (i + 1)) P b
  | [], f, b => ⟨rfl, rfl⟩
  | p :: P, f, b => by
    obtain ⟨h1, h2⟩ := ldP_shift P (put f (p.1 + 1) p.2) b
    have e : (fun i => put f (p.1 + 1) p.2 (i + 1)) = put (fun i => f (i + 1)) p.1 p.2 := by
      funext i; simp [put]
    refine ⟨h1.trans (by simp [put]), h2.trans ?_⟩
    rw [e]; rfl
theorem fit_in {size x : Int} {rest : List Int} {s m : Nat} (h0 : 0 ≤ size) (h : FitF size (fun _ => 0) (outs s rest) m) (hx : x + (ins s rest).sum ≤ size) : FitF size (fun _ => 0) (x :: rest) (1 + m) := by
  obtain ⟨P, h1, h2, h3⟩ := h
  refine ⟨((x :: ins s rest).map fun y => (0, y)) ++ (P.map fun p => (p.1 + 1, p.2)), ?_, fun p hp => ?_, fun b => ?_⟩
  · rw [List.map_append, List.map_map, List.map_map]
    have e1 : ((x :: ins s rest).map ((fun p : Nat × Int => p.2) ∘ fun y => (0, y))) = x :: ins s rest := by
      rw [show ((fun p : Nat × Int => p.2) ∘ fun y : Int => ((0 : Nat), y)) = id from rfl, List.map_id]
    have e2 : (P.map ((fun p : Nat × Int => p.2) ∘ fun p => (p.1 + 1, p.2))) = P.map (·.2) := rfl
    rw [e1, e2]
    exact ((List.Perm.append_left _ h1).trans ((ins_outs rest s).symm.cons x))
  · rcases List.mem_append.1 hp with hp | hp
    · obtain ⟨y, _, rfl⟩ := List.mem_map.1 hp
      show 0 < 1 + m; omega
    · obtain ⟨q, hq, rfl⟩ := List.mem_map.1 hp
      have := h2 q hq
      show q.1 + 1 < 1 + m; omega
  · rw [ldP_app, ldP_zero]
    cases b with
    | zero =>
      rw [(ldP_shift P _ 0).1]
      simp
      omega
    | succ b =>
      rw [(ldP_shift P _ b).2]
      have := h3 b
      simpa using this
theorem mask_ex : ∀ P : List (Nat × Int), ∃ s, s < 2 ^ P.length ∧ (∀ f : Nat → Int, ldP f P 0 = f 0 + (ins s (P.map (·.2))).sum) ∧ ∃ Q : List (Nat × Int), Q.map (·.2) = outs s (P.map (·.2)) ∧ (∀ p, p ∈ Q → (p.1 + 1, p.2) ∈ P) ∧ ∀ (f : Nat → Int) (b : Nat), ldP f P (b + 1) = ldP (fun i => f (i + 1)) Q b
  | [] => ⟨0, by simp, fun f => by simp [ldP, ins], [], rfl, fun p h => by simp at h, fun f b => rfl⟩
  | (a, y) :: P => by
    obtain ⟨s, h1, h2, Q, h3, h4, h5⟩ := mask_ex P
    cases a with
    | zero =>
      refine ⟨2 * s + 1, by rw [List.length_cons, Nat.pow_succ]; omega, fun f => ?_, Q, ?_, fun p hp => by simp [h4 p hp], fun f b => ?_⟩
      · show ldP (put f 0 y) P 0 = _
        rw [h2]
        simp only [List.map_cons, ins]
        rw [if_pos (by omega), show (2 * s + 1) / 2 = s from by omega]
        simp [put]; omega
      · simp only [List.map_cons, outs]
        rw [if_pos (by omega), show (2 * s + 1) / 2 = s from by omega]
        exact h3
      · show ldP (put f 0 y) P (b + 1) = _
        rw [h5]
        congr 1
    | succ a =>
      refine ⟨2 * s, by rw [List.length_cons, Nat.pow_succ]; omega, fun f => ?_, (a, y) :: Q, ?_, fun p hp => ?_, fun f b => ?_⟩
      · show ldP (put f (a + 1) y) P 0 = _
        rw [h2]
        simp only [List.map_cons, ins]
        rw [if_neg (by omega), show (2 * s) / 2 = s from by omega]
        simp [put]
      · simp only [List.map_cons, outs]
        rw [if_neg (by omega), show (2 * s) / 2 = s from by omega, h3]
      · rcases List.mem_cons.1 hp with rfl | hp
        · simp
        · simp [h4 p hp]
      · show ldP (put f (a + 1) y) P (b + 1) = ldP (put (fun i => f (i + 1)) a y) Q b
        rw [h5]
        congr 1
        funext i; simp [put]
theorem fit_out {size x : Int} {rest : List Int} {c : Nat} (h : FitF size (fun _ => 0) (x :: rest) c) : ∃ s c', s < 2 ^ rest.length ∧ c = 1 + c' ∧ x + (ins s rest).sum ≤ size ∧ FitF size (fun _ => 0) (outs s rest) c' := by
  obtain ⟨a, ha, hf⟩ := h.uncons
  have hc : 0 < c := by omega
  obtain ⟨P, h1, h2, h3⟩ := hf.swap ha hc rfl
  obtain ⟨P2, h4, h5⟩ := align h1
  obtain ⟨s, g1, g2, Q, g3, g4, g5⟩ := mask_ex P2
  rw [h5] at g2 g3
  have hl : P2.length = rest.length := by rw [← h5, List.length_map]
  rw [hl] at g1
  refine ⟨s, c - 1, g1, by omega, ?_, Q, by rw [g3], fun p hp => ?_, fun b => ?_⟩
  · have := h3 0
    rw [ldP_perm h4, g2] at this
    simpa [put] using this
  · have := h2 _ (h4.mem_iff.2 (g4 p hp))
    simp only at this; omega
  · have := h3 (b + 1)
    rw [ldP_perm h4, g5] at this
    have e : (fun i => put (fun _ => (0 : Int)) 0 x (i + 1)) = fun _ => 0 := by funext i; simp [put]
    rwa [e] at this
structure FewI (size x : Int) (rest : List Int) (s r : Nat) : Prop where
  le : r ≤ rest.length + 1
  all : ∀ s', s' < s → x + (ins s' rest).sum ≤ size → ∀ c, FitF size (fun _ => 0) (outs s' rest) c → r ≤ 1 + c
  is : r = rest.length + 1 ∨ FitF size (fun _ => 0) (x :: rest) r
theorem FewI.start (size x : Int) (rest : List Int) : FewI size x rest 0 (rest.length + 1) := ⟨Nat.le_refl _, fun s' h => by omega, .inl rfl⟩
theorem FewI.no {size x : Int} {rest : List Int} {s r : Nat} (h : FewI size x rest s r) (hx : ¬ x + (ins s rest).sum ≤ size) : FewI size x rest (s + 1) r := by
  refine ⟨h.le, fun s' hs hx' c hc => ?_, h.is⟩
  rcases Nat.lt_or_ge s' s with h1 | h1
  · exact h.all s' h1 hx' c hc
  · obtain rfl : s' = s := by omega
    exact (hx hx').elim
theorem FewI.yes {size x : Int} {rest : List Int} {s r m : Nat} (h0 : 0 ≤ size) (h : FewI size x rest s r) (hx : x + (ins s rest).sum ≤ size) (hm : Few size (outs s rest) m) : FewI size x rest (s + 1) (min r (1 + m)) := by
  refine ⟨by have := h.le; omega, fun s' hs hx' c hc => ?_, ?_⟩
  · rcases Nat.lt_or_ge s' s with h1 | h1
    · have := h.all s' h1 hx' c hc; omega
    · obtain rfl : s' = s := by omega
      have := hm.all c hc; omega
  · by_cases h1 : r ≤ 1 + m
    · rw [Nat.min_eq_left h1]; exact h.is
    · rw [Nat.min_eq_right (by omega)]; exact .inr (fit_in h0 hm.fit hx)
theorem FewI.done {size x : Int} {rest : List Int} {r : Nat} (h0 : 0 ≤ size) (hD : ∀ y, y ∈ x :: rest → y ≤ size) (h : FewI size x rest (2 ^ rest.length) r) : Few size (x :: rest) r := by
  refine ⟨?_, fun c hc => ?_⟩
  · rcases h.is with e | e
    · have h1 := fit_all (x :: rest) (fun _ => 0) 0 hD (fun _ _ => rfl) (fun _ => h0)
      rw [Nat.zero_add] at h1
      rw [e]; exact h1
    · exact e
  · obtain ⟨s, c', h1, h2, h3, h4⟩ := fit_out hc
    rw [h2]
    exact h.all s h1 h3 c' h4
theorem Few.nil {size : Int} (h0 : 0 ≤ size) : Few size [] 0 := ⟨⟨[], List.Perm.refl _, fun p h => by simp at h, fun _ => h0⟩, fun c _ => Nat.zero_le _⟩
end Go.Proofs.Ytfjoakhcgpckgaa.Wk
