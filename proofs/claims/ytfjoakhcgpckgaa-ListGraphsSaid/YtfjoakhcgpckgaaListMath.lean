/- Plain facts: jobs of a graph at work for several hands: states, what comes next, that there is always a next thing; two courses of it are one. -/
import Derived.Test.YtfjoakhcgpckgaaPathLawM
namespace Go.Proofs.Ytfjoakhcgpckgaa.Ls
open Gr (El Tm)
set_option linter.unusedVariables false
def setN {α : Type} (f : Nat → α) (i : Nat) (v : α) : Nat → α := fun x => if x = i then v else f x
theorem setN_same {α : Type} (f : Nat → α) (i : Nat) (v : α) : setN f i v i = v := by simp [setN]
theorem setN_other {α : Type} (f : Nat → α) {i x : Nat} (v : α) (h : x ≠ i) : setN f i v x = f x := by simp [setN, h]
structure St where
  beg : Nat → Bool
  at_ : Nat → Int
  hand : Nat → Nat
  now : Int
  free : Nat → Int
  fin : Int
def St.zero : St := ⟨fun _ => false, fun _ => 0, fun _ => 0, 0, fun _ => 0, 0⟩
def St.put (s : St) (d : Tm) (i h : Nat) : St := ⟨setN s.beg i true, setN s.at_ i s.now, setN s.hand i h, s.now, setN s.free h (s.now + d i), max s.fin (s.now + d i)⟩
def St.wait (s : St) (t : Int) : St := { s with now := t }
def freeP (s : St) (k : Nat) : Bool := decide (s.free k ≤ s.now)
def endedP (d : Tm) (s : St) (i : Nat) : Bool := s.beg i && decide (s.at_ i + d i ≤ s.now)
def readyP (L : El) (d : Tm) (s : St) (i : Nat) : Bool := !s.beg i && !(L.any fun x => x.2 == (i : Int) && !endedP d s x.1.toNat)
def handI (m : Nat) (s : St) : Int := leastI (freeP s) m
def readyI (n : Nat) (L : El) (d : Tm) (s : St) : Int := leastI (readyP L d s) n
/-- the least time behind now of the first k that g gives -/
def nextK (now : Int) (g : Nat → Int) : Nat → Int
  | 0 => -1
  | k + 1 => if now < g k ∧ (nextK now g k < 0 ∨ g k < nextK now g k) then g k else nextK now g k
theorem nextK_spec {now : Int} {g : Nat → Int} (h0 : 0 ≤ now) : ∀ m, (nextK now g m = -1 ∧ ∀ k, k < m → g k ≤ now) ∨ (∃ k, k < m ∧ now < g k ∧ nextK now g m = g k ∧ ∀ j, j < m → now < g j → g k ≤ g j)
  | 0 => .inl ⟨rfl, fun k hk => absurd hk (by omega)⟩
  | m + 1 => by
    rcases nextK_spec (g := g) h0 m with ⟨e, h⟩ | ⟨k, hk, h1, e, h⟩
    · by_cases hg : now < g m
      · refine .inr ⟨m, by omega, hg, ?_, fun j hj hj2 => ?_⟩
        · rw [nextK, if_pos ⟨hg, .inl (by omega)⟩]
        · by_cases ej : j = m
          · subst ej; omega
          · have := h j (by omega); omega
      · refine .inl ⟨?_, fun k hk => ?_⟩
        · rw [nextK, if_neg (by omega), e]
        · by_cases ek : k = m
          · subst ek; omega
          · exact h k (by omega)
    · by_cases hg : now < g m ∧ g m < g k
      · refine .inr ⟨m, by omega, hg.1, ?_, fun j hj hj2 => ?_⟩
        · rw [nextK, if_pos ⟨hg.1, .inr (by omega)⟩]
        · by_cases ej : j = m
          · subst ej; omega
          · have := h j (by omega) hj2; omega
      · refine .inr ⟨k, by omega, h1, ?_, fun j hj hj2 => ?_⟩
        · rw [nextK, if_neg (by omega), e]
        · by_cases ej : j = m
          · subst ej; omega
          · exact h j (by omega) hj2
def nextI (m : Nat) (s : St) : Int := nextK s.now s.free m
def leftN (n : Nat) (s : St) : Nat := Gr.many (not' s.beg) n
def busyN (m : Nat) (s : St) : Nat := Gr.many (fun k => decide (s.now < s.free k)) m
/-- what holds of every state -/
structure Inv (m n : Nat) (d : Tm) (s : St) : Prop where
  now0 : 0 ≤ s.now
  at0 : ∀ i, i < n → s.beg i = true → 0 ≤ s.at_ i ∧ s.at_ i ≤ s.now
  hand : ∀ i, i < n → s.beg i = true → s.hand i < m
  last : ∀ i, i < n → s.beg i = true → s.at_ i + d i ≤ s.now ∨ s.at_ i + d i = s.free (s.hand i)
  of : ∀ k, k < m → s.now < s.free k → ∃ i, i < n ∧ s.beg i = true ∧ s.hand i = k ∧ s.at_ i + d i = s.free k
  free0 : ∀ k, k < m → 0 ≤ s.free k
  fin0 : 0 ≤ s.fin
  fin : ∀ i, i < n → s.beg i = true → s.at_ i + d i ≤ s.fin
  finE : s.fin = 0 ∨ ∃ i, i < n ∧ s.beg i = true ∧ s.at_ i + d i = s.fin
  few : s.now + leftN n s * 1000000000 ≤ n * 1000000000
  fewF : ∀ k, k < m → s.free k + leftN n s * 1000000000 ≤ n * 1000000000
  fewS : s.fin + leftN n s * 1000000000 ≤ n * 1000000000
theorem leftN_zero (n : Nat) : leftN n St.zero ≤ n := many_len _ _
theorem Inv.zero (m n : Nat) (d : Tm) : Inv m n d St.zero := by
  have h := leftN_zero n
  refine ⟨by simp [St.zero], fun i _ h => ?_, fun i _ h => ?_, fun i _ h => ?_, fun k _ h => ?_, fun k _ => by simp [St.zero], by simp [St.zero], fun i _ h => ?_, .inl rfl, ?_, fun k _ => ?_, ?_⟩
  all_goals first
    | (simp [St.zero] at h; done)
    | (simp only [St.zero] at *; omega)
theorem leftN_put {n : Nat} {s : St} {d : Tm} {i h : Nat} (hi : i < n) (hb : s.beg i = false) : leftN n s = leftN n (s.put d i h) + 1 := by
  have e : not' (setN s.beg i true) = fun x => not' s.beg x && decide (x ≠ i) := by
    funext x
    unfold not' setN
    by_cases hx : x = i
    · simp [hx]
    · simp [hx]
  unfold leftN St.put
  simp only
  rw [e]
  exact Gr.many_drop (by simp [not', hb]) hi
theorem Inv.put {m n : Nat} {d : Tm} {s : St} {i h : Nat} (H : Inv m n d s) (hd : ∀ i, i < n → 0 ≤ d i ∧ d i ≤ 1000000000) (hi : i < n) (hb : s.beg i = false) (hh : h < m) (hf : s.free h ≤ s.now) : Inv m n d (s.put d i h) := by
  have hl := leftN_put (d := d) (h := h) hi hb
  obtain ⟨d0, d1⟩ := hd i hi
  have n0 := H.now0
  have f1 := H.few
  refine ⟨n0, fun j hj hbj => ?_, fun j hj hbj => ?_, fun j hj hbj => ?_, fun k hk hlt => ?_, fun k hk => ?_, ?_, fun j hj hbj => ?_, ?_, ?_, fun k hk => ?_, ?_⟩
  · show 0 ≤ setN s.at_ i s.now j ∧ setN s.at_ i s.now j ≤ s.now
    unfold setN
    split
    · omega
    · rename_i e
      exact H.at0 j hj (by simpa [St.put, setN, e] using hbj)
  · show setN s.hand i h j < m
    unfold setN
    split
    · exact hh
    · rename_i e
      exact H.hand j hj (by simpa [St.put, setN, e] using hbj)
  · show setN s.at_ i s.now j + d j ≤ s.now ∨ setN s.at_ i s.now j + d j = setN s.free h (s.now + d i) (setN s.hand i h j)
    by_cases e : j = i
    · subst e
      right
      rw [setN_same, setN_same, setN_same]
    · rw [setN_other _ _ e, setN_other _ _ e]
      have hb2 : s.beg j = true := by simpa [St.put, setN, e] using hbj
      rcases H.last j hj hb2 with h1 | h1
      · exact .inl h1
      · by_cases e2 : s.hand j = h
        · left
          rw [e2] at h1
          omega
        · rw [setN_other _ _ e2]
          exact .inr h1
  · have hlt' : s.now < setN s.free h (s.now + d i) k := hlt
    show ∃ j, j < n ∧ setN s.beg i true j = true ∧ setN s.hand i h j = k ∧ setN s.at_ i s.now j + d j = setN s.free h (s.now + d i) k
    by_cases e : k = h
    · subst e
      exact ⟨i, hi, setN_same _ _ _, setN_same _ _ _, by rw [setN_same, setN_same]⟩
    · rw [setN_other _ _ e] at hlt' ⊢
      obtain ⟨j, hj, h1, h2, h3⟩ := H.of k hk hlt'
      have ne : j ≠ i := fun e => by rw [e, hb] at h1; cases h1
      exact ⟨j, hj, by rw [setN_other _ _ ne]; exact h1, by rw [setN_other _ _ ne]; exact h2, by rw [setN_other _ _ ne]; exact h3⟩
  · show 0 ≤ setN s.free h (s.now + d i) k
    unfold setN
    split
    · omega
    · exact H.free0 k hk
  · show 0 ≤ max s.fin (s.now + d i)
    omega
  · show setN s.at_ i s.now j + d j ≤ max s.fin (s.now + d i)
    by_cases e : j = i
    · subst e; rw [setN_same]; omega
    · rw [setN_other _ _ e]
      have := H.fin j hj (by simpa [St.put, setN, e] using hbj)
      omega
  · show max s.fin (s.now + d i) = 0 ∨ ∃ j, j < n ∧ setN s.beg i true j = true ∧ setN s.at_ i s.now j + d j = max s.fin (s.now + d i)
    by_cases e : s.now + d i ≤ s.fin
    · rw [Int.max_eq_left e]
      rcases H.finE with h1 | ⟨j, hj, h1, h2⟩
      · exact .inl h1
      · have ne : j ≠ i := fun e => by rw [e, hb] at h1; cases h1
        exact .inr ⟨j, hj, by rw [setN_other _ _ ne]; exact h1, by rw [setN_other _ _ ne]; exact h2⟩
    · exact .inr ⟨i, hi, setN_same _ _ _, by rw [setN_same]; omega⟩
  · show s.now + (leftN n (s.put d i h) : Int) * 1000000000 ≤ _
    omega
  · show setN s.free h (s.now + d i) k + (leftN n (s.put d i h) : Int) * 1000000000 ≤ _
    unfold setN
    split
    · omega
    · have := H.fewF k hk; omega
  · show max s.fin (s.now + d i) + (leftN n (s.put d i h) : Int) * 1000000000 ≤ _
    have := H.fewS
    omega
theorem nextI_spec {m n : Nat} {d : Tm} {s : St} (H : Inv m n d s) : (nextI m s = -1 ∧ ∀ k, k < m → s.free k ≤ s.now) ∨ (∃ k, k < m ∧ s.now < s.free k ∧ nextI m s = s.free k ∧ ∀ j, j < m → s.now < s.free j → s.free k ≤ s.free j) := nextK_spec H.now0 m
theorem Inv.wait {m n : Nat} {d : Tm} {s : St} (H : Inv m n d s) (h : 0 ≤ nextI m s) : Inv m n d (s.wait (nextI m s)) ∧ busyN m (s.wait (nextI m s)) < busyN m s := by
  rcases nextI_spec H with ⟨e, _⟩ | ⟨k, hk, h1, e, h2⟩
  · omega
  have n0 := H.now0
  rw [e]
  refine ⟨⟨by show 0 ≤ s.free k; omega, fun j hj hbj => ?_, H.hand, fun j hj hbj => ?_, fun j hj hlt => ?_, H.free0, H.fin0, H.fin, H.finE, H.fewF k hk, H.fewF, H.fewS⟩, ?_⟩
  · have := H.at0 j hj hbj
    exact ⟨this.1, by show s.at_ j ≤ s.free k; omega⟩
  · rcases H.last j hj hbj with a | a
    · left; show s.at_ j + d j ≤ s.free k; omega
    · exact .inr a
  · have hlt' : s.free k < s.free j := hlt
    exact H.of j hj (by omega)
  · refine Gr.many_lt (j := k) (fun j hj hb => ?_) hk ?_ ?_
    · have hb' : decide (s.free k < s.free j) = true := hb
      simp only [decide_eq_true_eq] at hb' ⊢
      omega
    · show decide (s.free k < s.free k) = false
      simp
    · simp [h1]
/-- as long as something is left, something can begin, or a time comes -/
theorem progress {m n : Nat} {L : El} {d : Tm} {s : St} {ord : List Nat} (hT : Gr.Topo n L ord) (hO : Gr.Ok n L) (H : Inv m n d s) (hm : 0 < m) (hl : 0 < leftN n s) (h : handI m s < 0 ∨ readyI n L d s < 0) : 0 ≤ nextI m s ∧ s.now < nextI m s := by
  have n0 := H.now0
  rcases nextI_spec H with ⟨e, h1⟩ | ⟨k, hk, h1, e, h2⟩
  · exfalso
    rcases h with h | h
    · have := leastI_ex (p := freeP s) hm (by simp [freeP, h1 0 hm])
      unfold handI at h
      omega
    · -- all have begun
      have hall : ∀ i, i < n → s.beg i = true := hT.ind fun i hi hp => by
        cases hb : s.beg i with
        | true => rfl
        | false =>
          exfalso
          have hr : readyP L d s i = true := by
            unfold readyP
            rw [hb]
            simp only [Bool.not_false, Bool.true_and, Bool.not_eq_true', List.any_eq_false]
            rintro ⟨x, y⟩ hx
            simp only [Bool.and_eq_true, beq_iff_eq, Bool.not_eq_true', not_and, Bool.not_eq_false]
            intro hy
            subst hy
            obtain ⟨x0, x1, _, _⟩ := hO _ hx
            simp only at x0 x1
            have he : Gr.ed L x.toNat i := by
              unfold Gr.ed
              rw [Int.toNat_of_nonneg x0]
              exact hx
            have hbx := hp _ he
            unfold endedP
            rw [hbx]
            have hxn : x.toNat < n := by omega
            rcases H.last _ hxn hbx with a | a
            · simp [a]
            · have := h1 _ (H.hand _ hxn hbx)
              rw [a]
              simp [this]
          have := leastI_ex hi hr
          unfold readyI at h
          omega
      have : leftN n s = 0 := Gr.many_none fun i hi => by simp [not', hall i hi]
      omega
  · omega
/-- a course of states to its end -/
inductive Run (m n : Nat) (L : El) (d : Tm) : St → St → Prop
  | done {s : St} (h : leftN n s = 0) : Run m n L d s s
  | put {s r : St} (hl : leftN n s ≠ 0) (h1 : 0 ≤ handI m s) (h2 : 0 ≤ readyI n L d s) (t : Run m n L d (s.put d (readyI n L d s).toNat (handI m s).toNat) r) : Run m n L d s r
  | wait {s r : St} (hl : leftN n s ≠ 0) (h1 : handI m s < 0 ∨ readyI n L d s < 0) (t : Run m n L d (s.wait (nextI m s)) r) : Run m n L d s r
theorem Run.uniq {m n : Nat} {L : El} {d : Tm} {s r : St} (h : Run m n L d s r) : ∀ {r'}, Run m n L d s r' → r = r' := by
  induction h with
  | done h =>
    intro r' g
    cases g with
    | done _ => rfl
    | put hl _ _ _ => exact (hl h).elim
    | wait hl _ _ => exact (hl h).elim
  | put hl h1 h2 t ih =>
    intro r' g
    cases g with
    | done h => exact (hl h).elim
    | put _ _ _ t2 => exact ih t2
    | wait _ h _ => omega
  | wait hl h1 t ih =>
    intro r' g
    cases g with
    | done h => exact (hl h).elim
    | put _ _ _ _ => omega
    | wait _ _ t2 => exact ih t2
/-- the rounds that are to come, at most -/
def rounds (m n : Nat) (s : St) : Nat := leftN n s * (m + 1) + busyN m s
theorem many_suc (f : Nat → Bool) (m : Nat) : Gr.many f (m + 1) = Gr.many f m + (f m).toNat := by
  show Gr.many f m + (if f m then 1 else 0) = _
  cases f m <;> simp
theorem many_one {f g : Nat → Bool} {h : Nat} (hne : ∀ k, k ≠ h → f k = g k) : ∀ m, (m ≤ h → Gr.many f m ≤ Gr.many g m) ∧ Gr.many f m ≤ Gr.many g m + 1
  | 0 => ⟨fun _ => Nat.le_refl _, by simp [Gr.many]⟩
  | m + 1 => by
    obtain ⟨a, b⟩ := many_one hne m
    have e1 := many_suc f m
    have e2 := many_suc g m
    have hb := Bool.toNat_le (f m)
    by_cases e : m = h
    · subst e
      have := a (Nat.le_refl _)
      exact ⟨fun h => by omega, by omega⟩
    · rw [hne m e] at e1
      exact ⟨fun h => by have := a (by omega); omega, by omega⟩
theorem busyN_put {m n : Nat} {d : Tm} {s : St} {i h : Nat} : busyN m (s.put d i h) ≤ busyN m s + 1 :=
  (many_one (h := h) (fun k hk => by show decide (s.now < setN s.free h (s.now + d i) k) = _; rw [setN_other _ _ hk]) m).2
theorem rounds_put {m n : Nat} {d : Tm} {s : St} {i h : Nat} (hi : i < n) (hb : s.beg i = false) (hm : 0 < m) : rounds m n (s.put d i h) < rounds m n s := by
  have h1 := leftN_put (d := d) (h := h) hi hb
  have h2 := busyN_put (m := m) (n := n) (d := d) (s := s) (i := i) (h := h)
  unfold rounds
  rw [h1, Nat.add_mul]
  omega
/-- at a state's turn: who is put -/
theorem hand_of {m : Nat} {s : St} (h : 0 ≤ handI m s) : (handI m s).toNat < m ∧ s.free (handI m s).toNat ≤ s.now := by
  unfold handI at h ⊢
  rcases leastI_cases (freeP s) m with ⟨i, hi, e, h1, _⟩ | ⟨e, _⟩
  · rw [e, Int.toNat_natCast]
    exact ⟨hi, by simpa [freeP] using h1⟩
  · omega
theorem ready_of {n : Nat} {L : El} {d : Tm} {s : St} (h : 0 ≤ readyI n L d s) : (readyI n L d s).toNat < n ∧ s.beg (readyI n L d s).toNat = false := by
  unfold readyI at h ⊢
  rcases leastI_cases (readyP L d s) n with ⟨i, hi, e, h1, _⟩ | ⟨e, _⟩
  · rw [e, Int.toNat_natCast]
    refine ⟨hi, ?_⟩
    unfold readyP at h1
    simp only [Bool.and_eq_true, Bool.not_eq_true'] at h1
    exact h1.1
  · omega
end Go.Proofs.Ytfjoakhcgpckgaa.Ls
