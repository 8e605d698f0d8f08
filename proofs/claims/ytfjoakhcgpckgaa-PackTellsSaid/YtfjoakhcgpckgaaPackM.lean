/- Plain facts: things into boxes, each into the first that has room. -/
import Derived.Test.YtfjoakhcgpckgaaWorkM
import Derived.Test.YtfjoakhcgpckgaaDownward
namespace Go.Proofs.Ytfjoakhcgpckgaa.Wk
set_option linter.unusedVariables false
/-- what lies in box b, of the first q -/
def fl (D : List Int) (on : Nat → Option Nat) : Nat → Nat → Int
  | 0, _ => 0
  | q + 1, b => fl D on q b + (if on q = some b then D.getD q 0 else 0)
theorem getD_nonneg {D : List Int} (hD : ∀ x, x ∈ D → 0 ≤ x) (i : Nat) : 0 ≤ D.getD i 0 := by
  rw [List.getD_eq_getElem?_getD]
  cases h : D[i]? with
  | none => simp
  | some x => simpa using hD x (List.mem_of_getElem? h)
theorem fl_le {D : List Int} (hD : ∀ x, x ∈ D → 0 ≤ x) (on : Nat → Option Nat) (b : Nat) : ∀ {q r : Nat}, q ≤ r → fl D on q b ≤ fl D on r b := by
  intro q r h
  induction r with
  | zero => obtain rfl : q = 0 := by omega
            exact Int.le_refl _
  | succ r ih =>
    rcases Nat.lt_or_ge q (r + 1) with h1 | h1
    · have h2 := ih (by omega)
      have h3 := getD_nonneg hD r
      show _ ≤ fl D on r b + _
      split <;> omega
    · obtain rfl : q = r + 1 := by omega
      exact Int.le_refl _
theorem fl_nonneg {D : List Int} (hD : ∀ x, x ∈ D → 0 ≤ x) (on : Nat → Option Nat) (q b : Nat) : 0 ≤ fl D on q b := by
  have := fl_le hD on b (Nat.zero_le q); simpa [fl] using this
def updo (on : Nat → Option Nat) (o k : Nat) : Nat → Option Nat := fun i => if i = o then some k else on i
theorem fl_set (D : List Int) (on : Nat → Option Nat) (o k b : Nat) (h : on o = none) : ∀ q, fl D (updo on o k) q b = fl D on q b + (if o < q ∧ b = k then D.getD o 0 else 0)
  | 0 => by simp [fl]
  | q + 1 => by
    simp only [fl]
    rw [fl_set D on o k b h q]
    by_cases e : q = o
    · subst e
      have h1 : updo on q k q = some k := by simp [updo]
      rw [h1, h]
      by_cases hb : b = k
      · subst hb; simp
      · have : ¬ k = b := fun e => hb e.symm
        simp [hb, this]
    · have h1 : updo on o k q = on q := by simp [updo, e]
      rw [h1]
      have h2 : (o < q + 1) ↔ (o < q) := by omega
      simp only [h2]
      omega
theorem fl_none {D : List Int} {on : Nat → Option Nat} {b : Nat} (h : ∀ i, on i ≠ some b) : ∀ q, fl D on q b = 0
  | 0 => rfl
  | q + 1 => by simp [fl, fl_none h q, h q]
/-- the least of the first m that has p; m, if none has -/
def ffk (p : Nat → Bool) : Nat → Nat
  | 0 => 0
  | m + 1 => if p (ffk p m) then ffk p m else m + 1
theorem ffk_spec (p : Nat → Bool) : ∀ m, ffk p m ≤ m ∧ (∀ j, j < ffk p m → p j = false) ∧ (ffk p m < m → p (ffk p m) = true)
  | 0 => ⟨Nat.le_refl _, fun j h => absurd h (by unfold ffk; omega), fun h => absurd h (by omega)⟩
  | m + 1 => by
    obtain ⟨h1, h2, h3⟩ := ffk_spec p m
    unfold ffk
    by_cases h : p (ffk p m) = true
    · rw [if_pos h]
      exact ⟨by omega, h2, fun _ => h⟩
    · rw [if_neg h]
      have h4 : ffk p m = m := by
        rcases Nat.lt_or_ge (ffk p m) m with h5 | h5
        · exact (h (h3 h5)).elim
        · omega
      refine ⟨Nat.le_refl _, fun j hj => ?_, fun h => absurd h (by omega)⟩
      rcases Nat.lt_or_ge j m with h5 | h5
      · exact h2 j (by omega)
      · obtain rfl : j = m := by omega
        rw [h4] at h
        simpa using h
theorem ffk_uniq {p : Nat → Bool} {m k : Nat} (h1 : k ≤ m) (h2 : ∀ j, j < k → p j = false) (h3 : k < m → p k = true) : ffk p m = k := by
  obtain ⟨g1, g2, g3⟩ := ffk_spec p m
  rcases Nat.lt_trichotomy (ffk p m) k with h | h | h
  · have a := h2 _ h
    rw [g3 (by omega)] at a; cases a
  · exact h
  · have a := g2 _ h
    rw [h3 (by omega)] at a; cases a
def fits (n : Nat) (D : List Int) (size : Int) (on : Nat → Option Nat) (x : Int) (k : Nat) : Bool := decide (fl D on n k + x ≤ size)
def pstep (n : Nat) (D : List Int) (size : Int) (s : (Nat → Option Nat) × Nat) (o : Int) : (Nat → Option Nat) × Nat :=
  let k := ffk (fits n D size s.1 (D.getD o.toNat 0)) s.2
  (updo s.1 o.toNat k, max s.2 (k + 1))
def ps (n : Nat) (D : List Int) (size : Int) (os : List Int) : (Nat → Option Nat) × Nat := os.foldl (pstep n D size) (fun _ => none, 0)
theorem ps_take {n : Nat} {D os : List Int} {size : Int} {q : Nat} {o : Int} (h : os[q]? = some o) : ps n D size (os.take (q + 1)) = pstep n D size (ps n D size (os.take q)) o := by
  rw [List.take_add_one, h]
  unfold ps
  rw [List.foldl_append]
  rfl
structure PInv (n : Nat) (D : List Int) (size : Int) (done : List Int) (s : (Nat → Option Nat) × Nat) : Prop where
  non : ∀ i : Nat, (i : Int) ∉ done → s.1 i = none
  som : ∀ i : Nat, (i : Int) ∈ done → ∃ k, s.1 i = some k
  lt : ∀ i b, s.1 i = some b → b < s.2
  le : ∀ b, fl D s.1 n b ≤ size
  cnt : s.2 ≤ done.length
theorem PInv.start (n : Nat) (D : List Int) (size : Int) (h : 0 ≤ size) : PInv n D size [] (fun _ => Option.none, 0) :=
  ⟨fun _ _ => rfl, fun i h => (by simp at h), fun i b h => (by cases h), fun b => (by
    show fl D (fun _ => Option.none) n b ≤ size
    rw [fl_none (fun i e => by cases e)]; exact h), Nat.le_refl _⟩
theorem PInv.beyond {n : Nat} {D done : List Int} {size : Int} {s : (Nat → Option Nat) × Nat} (h : PInv n D size done s) {b : Nat} (hb : s.2 ≤ b) (q : Nat) : fl D s.1 q b = 0 :=
  fl_none (fun i e => by have := h.lt i b e; omega) q
theorem PInv.step {n : Nat} {D done : List Int} {size : Int} {s : (Nat → Option Nat) × Nat} (h : PInv n D size done s) {o : Nat} (ho : (o : Int) ∉ done) (hon : o < n) (hx : D.getD o 0 ≤ size) : PInv n D size (done ++ [(o : Int)]) (pstep n D size s o) := by
  obtain ⟨g1, g2, g3⟩ := ffk_spec (fits n D size s.1 (D.getD o 0)) s.2
  have hno := h.non o ho
  unfold pstep
  simp only [Int.toNat_natCast]
  refine ⟨fun i hi => ?_, fun i hi => ?_, fun i b hb => ?_, fun b => ?_, ?_⟩
  · have h1 : ¬ i = o := fun e => hi (by rw [e]; simp)
    simp only [updo, h1, if_false]
    exact h.non i (fun e => hi (by simp [e]))
  · by_cases e : i = o
    · exact ⟨ffk (fits n D size s.1 (D.getD o 0)) s.2, by simp only [updo, e, if_true]⟩
    · have : (i : Int) ∈ done := by
        rcases List.mem_append.1 hi with h1 | h1
        · exact h1
        · simp at h1; omega
      obtain ⟨k, hk⟩ := h.som i this
      exact ⟨k, by simp only [updo, e, if_false, hk]⟩
  · by_cases e : i = o
    · simp only [updo, e, if_true, Option.some.injEq] at hb
      show b < max s.2 _
      omega
    · simp only [updo, e, if_false] at hb
      have := h.lt i b hb
      show b < max s.2 _
      omega
  · rw [fl_set D s.1 o _ b hno n]
    by_cases e : o < n ∧ b = ffk (fits n D size s.1 (D.getD o 0)) s.2
    · rw [if_pos e, e.2]
      rcases Nat.lt_or_ge (ffk (fits n D size s.1 (D.getD o 0)) s.2) s.2 with h1 | h1
      · have := g3 h1
        simpa [fits] using this
      · rw [h.beyond h1]; omega
    · rw [if_neg e]
      have := h.le b
      omega
  · have := h.cnt
    show max s.2 _ ≤ _
    rw [List.length_append, List.length_singleton]
    omega
theorem ps_inv {n : Nat} {D os : List Int} {size : Int} (h0 : 0 ≤ size) (hD : ∀ x, x ∈ D → x ≤ size) (hnd : os.Nodup) (hos : ∀ o, o ∈ os → 0 ≤ o ∧ o < n) (hn : n = D.length) : ∀ q, PInv n D size (os.take q) (ps n D size (os.take q))
  | 0 => by simpa [ps] using PInv.start n D size h0
  | q + 1 => by
    have ih := ps_inv h0 hD hnd hos hn q
    cases h : os[q]? with
    | none => rw [List.take_add_one, h]; simpa using ih
    | some o =>
      rw [ps_take h]
      have hob := hos o (List.mem_of_getElem? h)
      obtain ⟨p, rfl⟩ : ∃ p : Nat, o = (p : Int) := ⟨o.toNat, by omega⟩
      rw [List.take_add_one, h]
      refine ih.step ?_ (by omega) ?_
      · intro hm
        obtain ⟨j, hj, hj2⟩ := List.mem_iff_getElem.1 hm
        rw [List.length_take] at hj
        have hq := (List.getElem?_eq_some_iff.1 h).1
        have e3 : os[j]? = some (p : Int) := by rw [← hj2, List.getElem_take]; exact List.getElem?_eq_getElem _
        have := (List.getElem?_inj hq hnd).1 (h.trans e3.symm)
        omega
      · have hp : p < D.length := by omega
        rw [List.getD_eq_getElem?_getD, List.getElem?_eq_getElem hp]
        exact hD _ (List.getElem_mem hp)
def onZ (z : Int) (o : Option Nat) : Int := match o with | none => z | some k => (k : Int)
/-- in which box each lies -/
def pin (n : Nat) (z : Int) (s : (Nat → Option Nat) × Nat) : List Int := (List.range n).map fun i => onZ z (s.1 i)
theorem pin_same {n : Nat} {D os : List Int} {size : Int} (h0 : 0 ≤ size) (hD : ∀ x, x ∈ D → x ≤ size) (hp : os.Perm (upn n)) (hn : n = D.length) : pin n (-1) (ps n D size os) = pin n 0 (ps n D size os) := by
  have h := ps_inv h0 hD (hp.nodup_iff.2 (upn_nodup n)) (fun o ho => upn_mem.1 (hp.mem_iff.1 ho)) hn os.length
  rw [List.take_length] at h
  unfold pin
  refine List.map_congr_left fun i hi => ?_
  have hi2 := List.mem_range.1 hi
  obtain ⟨k, hk⟩ := h.som i (hp.mem_iff.2 (upn_mem.2 ⟨by omega, by omega⟩))
  rw [hk]; rfl
end Go.Proofs.Ytfjoakhcgpckgaa.Wk
