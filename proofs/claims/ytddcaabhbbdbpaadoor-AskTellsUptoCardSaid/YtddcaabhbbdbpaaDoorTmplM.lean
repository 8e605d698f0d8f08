/- Plain: scripts with gaps: their parts, the names of the gaps, what they are filled to; no program in sight. -/
import Derived.Lib.IndexMore
namespace Go.Proofs.YtddcaabhbbdbpaaDoor.Tp
set_option linter.unusedVariables false
abbrev Bs := List UInt8
def small (c : UInt8) : Bool := decide (97 ≤ c.toNat ∧ c.toNat ≤ 122)
def labC (c : UInt8) : Bool := small c || decide (48 ≤ c.toNat ∧ c.toNat ≤ 57) || decide (c.toNat = 45)
/-- is it a label? -/
def lab : Bs → Bool
  | [] => false
  | c :: s => small c && s.all labC && decide (s.length < 20)
/-- around the first c -/
def cutB (c : UInt8) : Bs → Bs × Bs × Bool
  | [] => ([], [], false)
  | x :: s => if x = c then ([], s, true) else (x :: (cutB c s).1, (cutB c s).2.1, (cutB c s).2.2)
theorem cutB_len (c : UInt8) : ∀ s, (cutB c s).2.1.length ≤ s.length
  | [] => Nat.le_refl _
  | x :: s => by
    rw [cutB]
    split
    · simp
    · have := cutB_len c s
      simp
      omega
theorem cutB_miss {c : UInt8} : ∀ {s : Bs}, (cutB c s).2.2 = false → (cutB c s).1 = s ∧ (cutB c s).2.1 = [] ∧ ∀ x, x ∈ s → x ≠ c
  | [], _ => ⟨rfl, rfl, fun x h => by cases h⟩
  | x :: s, h => by
    rw [cutB] at h ⊢
    split at h
    · cases h
    · rename_i hx
      obtain ⟨h1, h2, h3⟩ := cutB_miss h
      rw [if_neg hx]
      refine ⟨by simp [h1], h2, fun y hy => ?_⟩
      rcases List.mem_cons.1 hy with rfl | hy
      · exact hx
      · exact h3 y hy
theorem cutB_hit {c : UInt8} : ∀ {s : Bs}, (cutB c s).2.2 = true → s = (cutB c s).1 ++ c :: (cutB c s).2.1 ∧ ∀ x, x ∈ (cutB c s).1 → x ≠ c
  | [], h => by cases h
  | x :: s, h => by
    rw [cutB] at h ⊢
    split at h
    · rename_i hx
      rw [if_pos hx, hx]
      exact ⟨rfl, fun y hy => by cases hy⟩
    · rename_i hx
      obtain ⟨h1, h2⟩ := cutB_hit h
      rw [if_neg hx]
      refine ⟨by simp only [List.cons_append]; rw [← h1], fun y hy => ?_⟩
      rcases List.mem_cons.1 hy with rfl | hy
      · exact hx
      · exact h2 y hy
theorem index_one (c : UInt8) : ∀ s : Bs, Lib.index s [c] = if (cutB c s).2.2 then ((cutB c s).1.length : Int) else -1
  | [] => rfl
  | x :: s => by
    have ih := index_one c s
    rw [cutB]
    by_cases hx : x = c
    · subst hx
      simp [Lib.index]
    · simp only [if_neg hx]
      have hcx : ¬ c = x := fun e => hx e.symm
      have : Lib.index (x :: s) [c] = if Lib.index s [c] = -1 then -1 else Lib.index s [c] + 1 := by
        simp [Lib.index, hcx]
      rw [this, ih]
      cases hc : (cutB c s).2.2 with
      | false => simp
      | true =>
        simp
theorem cut_one (c : UInt8) (s : Bs) : Lib.cut s [c] = cutB c s := by
  unfold Lib.cut
  rw [index_one]
  cases hc : (cutB c s).2.2 with
  | false =>
    obtain ⟨h1, h2, _⟩ := cutB_miss hc
    rw [if_neg (by simp)]
    apply Prod.ext
    · exact h1.symm
    · apply Prod.ext
      · exact h2.symm
      · exact hc.symm
  | true =>
    obtain ⟨h1, _⟩ := cutB_hit hc
    obtain ⟨f, r, hf, hr⟩ : ∃ f r, (cutB c s).1 = f ∧ (cutB c s).2.1 = r := ⟨_, _, rfl, rfl⟩
    rw [hf, hr] at h1
    rw [if_pos rfl, hf, if_pos (by omega), Int.toNat_natCast]
    apply Prod.ext
    · rw [hf, h1]; simp
    · apply Prod.ext
      · rw [hr, h1]
        show List.drop (f.length + 1) (f ++ c :: r) = r
        rw [List.drop_append]
        simp
      · exact hc.symm
/-- the parts of a script: a text, or the name of a gap -/
structure Part where
  gap : Bool
  txt : Bs
def D : UInt8 := 36
def O : UInt8 := 123
def E : UInt8 := 125
/-- the parts, if it is a script; k bounds how far -/
def scrN (rec : Bs → Option (List Part)) (d : UInt8) (s' : Bs) : Option (List Part) :=
  if d = D then (rec s').map (⟨false, [D]⟩ :: ·) else
  if (cutB E (d :: s')).2.2 = true ∧ d = O ∧ lab ((cutB E (d :: s')).1.drop 1) = true then (rec (cutB E (d :: s')).2.1).map (⟨true, (cutB E (d :: s')).1.drop 1⟩ :: ·) else none
def scrK : Nat → Bs → Option (List Part)
  | 0, _ => none
  | k + 1, [] => some []
  | k + 1, [c] => if c ≠ D then (scrK k []).map (⟨false, [c]⟩ :: ·) else none
  | k + 1, c :: d :: s' => if c ≠ D then (scrK k (d :: s')).map (⟨false, [c]⟩ :: ·) else scrN (scrK k) d s'
theorem scrK_more : ∀ (k m : Nat) (s : Bs), s.length < k → k ≤ m → scrK m s = scrK k s
  | 0, m, s, h, _ => by omega
  | k + 1, 0, s, h, h2 => by omega
  | k + 1, m + 1, [], h, h2 => rfl
  | k + 1, m + 1, [c], h, h2 => by
    simp only [List.length_cons, List.length_nil] at h
    rw [scrK, scrK, scrK_more k m [] (by simp; omega) (by omega)]
  | k + 1, m + 1, c :: d :: s', h, h2 => by
    simp only [List.length_cons] at h
    have := cutB_len E (d :: s')
    simp only [List.length_cons] at this
    rw [scrK, scrK, scrN, scrN, scrK_more k m (d :: s') (by simp; omega) (by omega), scrK_more k m s' (by omega) (by omega), scrK_more k m (cutB E (d :: s')).2.1 (by omega) (by omega)]
def scr (s : Bs) : Option (List Part) := scrK (s.length + 1) s
theorem scrK_scr {k : Nat} {s : Bs} (h : s.length < k) : scrK k s = scr s := scrK_more (s.length + 1) k s (by omega) (by omega)
theorem scr_nil : scr [] = some [] := rfl
theorem scr_char {c : UInt8} {s : Bs} (h : c ≠ D) : scr (c :: s) = (scr s).map (⟨false, [c]⟩ :: ·) := by
  cases s with
  | nil => rw [scr, scrK, if_pos h]; rfl
  | cons d s' => rw [scr, scrK, if_pos h]; rfl
theorem scr_end : scr [D] = none := by decide
theorem scr_two (s : Bs) : scr (D :: D :: s) = (scr s).map (⟨false, [D]⟩ :: ·) := by
  have e : scr (D :: D :: s) = scrN (scrK (s.length + 1 + 1)) D s := by
    rw [scr, scrK, if_neg (fun h => h rfl)]; rfl
  rw [e, scrN, if_pos rfl, scrK_scr (by omega)]
theorem scr_gap {d : UInt8} {s : Bs} (hd : d ≠ D) : scr (D :: d :: s) = if (cutB E (d :: s)).2.2 = true ∧ d = O ∧ lab ((cutB E (d :: s)).1.drop 1) = true then (scr (cutB E (d :: s)).2.1).map (⟨true, (cutB E (d :: s)).1.drop 1⟩ :: ·) else none := by
  have e : scr (D :: d :: s) = scrN (scrK (s.length + 1 + 1)) d s := by
    rw [scr, scrK, if_neg (fun h => h rfl)]; rfl
  have := cutB_len E (d :: s)
  simp only [List.length_cons] at this
  rw [e, scrN, if_neg hd, scrK_scr (by omega)]
/-- a text ahead of what follows -/
theorem scr_text : ∀ (f : Bs) (s : Bs), (∀ x, x ∈ f → x ≠ D) → scr (f ++ s) = (scr s).map (f.map (fun c => ⟨false, [c]⟩) ++ ·)
  | [], s, _ => by simp
  | c :: f, s, h => by
    rw [List.cons_append, scr_char (h c (by simp)), scr_text f s (fun x hx => h x (by simp [hx]))]
    cases scr s <;> simp
/-- the names of the gaps, each once, in the order in which they come -/
def gapsA (acc : List Bs) : List Part → List Bs
  | [] => acc
  | p :: l => gapsA (if p.gap = true ∧ p.txt ∉ acc then acc ++ [p.txt] else acc) l
/-- what the parts are filled to -/
def fill (by' : Bs → Bs) : List Part → Bs
  | [] => []
  | p :: l => (if p.gap then by' p.txt else p.txt) ++ fill by' l
theorem fill_append (by' : Bs → Bs) (a b : List Part) : fill by' (a ++ b) = fill by' a ++ fill by' b := by
  induction a with
  | nil => rfl
  | cons p a ih => simp [fill, ih]
theorem fill_text (by' : Bs → Bs) (f : Bs) : fill by' (f.map fun c => ⟨false, [c]⟩) = f := by
  induction f with
  | nil => rfl
  | cons c f ih => simp [fill, ih]
theorem gapsA_text (acc : List Bs) (f : Bs) (l : List Part) : gapsA acc (f.map (fun c => ⟨false, [c]⟩) ++ l) = gapsA acc l := by
  induction f with
  | nil => rfl
  | cons c f ih => simp [gapsA, ih]
end Go.Proofs.YtddcaabhbbdbpaaDoor.Tp
