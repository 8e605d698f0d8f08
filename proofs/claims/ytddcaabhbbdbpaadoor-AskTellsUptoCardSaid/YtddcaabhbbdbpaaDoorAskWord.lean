/- Plain: a word up to a sign, by its index; how long the text of a good ask is; the reader's count never grows. -/
import Derived.Test.YtddcaabhbbdbpaaDoorAskRdM
import Derived.Test.YtddcaabhbbdbpaaDoorAskErr
import Derived.Lib.IndexAny
namespace Go.Proofs.YtddcaabhbbdbpaaDoor.Ar
open Go.Proofs.YtddcaabhbbdbpaaDoor.Tp
set_option linter.unusedVariables false
/-- the signs -/
def signs : Bs := [63, 61, 62, 33, 40, 41, 38, 124]
theorem sgn_signs (c : UInt8) : signs.contains c = sgn c := by
  unfold signs sgn
  simp only [List.contains_cons, List.contains_nil, Bool.or_false, Bool.or_assoc]
theorem index_word : ∀ s : Bs, Lib.indexAny s signs = if rest s = [] then -1 else ((word s).length : Int)
  | [] => rfl
  | c :: s => by
    rw [Lib.indexAny, sgn_signs]
    have ih := index_word s
    cases h : sgn c with
    | true =>
      have e1 : rest (c :: s) = c :: s := by unfold rest; simp [List.dropWhile, h]
      have e2 : word (c :: s) = [] := by unfold word; simp [List.takeWhile, h]
      rw [e1, e2]; simp
    | false =>
      have e1 : rest (c :: s) = rest s := by unfold rest; simp [List.dropWhile, h]
      have e2 : word (c :: s) = c :: word s := by unfold word; simp [List.takeWhile, h]
      rw [e1, e2, ih]
      by_cases h0 : rest s = []
      · simp [h0]
      · rw [if_neg h0, if_neg h0]
        have : ((word s).length : Int) ≠ -1 := by omega
        simp [this]
theorem word_rest (s : Bs) : word s ++ rest s = s := List.takeWhile_append_dropWhile
theorem word_take (s : Bs) : s.take (word s).length = word s ∧ s.drop (word s).length = rest s := by
  have h := word_rest s
  obtain ⟨a, ha⟩ : ∃ a, word s = a := ⟨_, rfl⟩
  obtain ⟨b, hb⟩ : ∃ a, rest s = a := ⟨_, rfl⟩
  rw [ha, hb] at h ⊢
  subst h
  exact ⟨List.take_left' rfl, List.drop_left' rfl⟩
theorem word_all {s : Bs} (h : rest s = []) : word s = s := by
  have := word_rest s
  rw [h, List.append_nil] at this; exact this
theorem word_len (s : Bs) : (word s).length ≤ s.length := by
  have := congrArg List.length (word_rest s)
  rw [List.length_append] at this; omega
theorem rest_len (s : Bs) : (rest s).length ≤ s.length := by
  have := congrArg List.length (word_rest s)
  rw [List.length_append] at this; omega
/-- around the first c at the front -/
def takeB (c : UInt8) : Bs → Option Bs
  | [] => none
  | x :: t => if x = c then some t else none
theorem askP_less : ∀ (N left : Nat) (s : Bs) (x : Ask) (r : Bs) (l : Nat), askP N left s = some (x, r, l) → l < left ∧ r.length ≤ s.length ∧ x.size ≤ left - l
  | 0, left, s, x, r, l, h => by simp [askP] at h
  | N + 1, left, s, x, r, l, h => by
    unfold askP at h
    split at h
    · cases h
    rename_i h0
    split at h
    · rename_i t
      cases h
      have := rest_len t
      exact ⟨by omega, by simp; omega, by simp [Ask.size, Ask.sizes]; omega⟩
    · rename_i t
      split at h
      · cases h
      · rename_i y r' l' hy
        cases h
        obtain ⟨h1, h2, h3⟩ := askP_less N _ _ _ _ _ hy
        exact ⟨by omega, by simp; omega, by simp [Ask.size, Ask.sizes]; omega⟩
    · rename_i t
      split at h
      · cases h
      · rename_i a r' l' ha
        obtain ⟨h1, h2, h3⟩ := askP_less N _ _ _ _ _ ha
        split at h
        · rename_i r2
          split at h
          · rename_i b r3 l3 hb
            cases h
            obtain ⟨g1, g2, g3⟩ := askP_less N _ _ _ _ _ hb
            simp at h2 g2
            exact ⟨by omega, by simp; omega, by simp [Ask.size, Ask.sizes]; omega⟩
          · cases h
        · rename_i r2
          split at h
          · rename_i b r3 l3 hb
            cases h
            obtain ⟨g1, g2, g3⟩ := askP_less N _ _ _ _ _ hb
            simp at h2 g2
            exact ⟨by omega, by simp; omega, by simp [Ask.size, Ask.sizes]; omega⟩
          · cases h
        · cases h
    · split at h
      · rename_i t ht
        split at h
        · cases h
          have h1 := rest_len s
          have h2 := rest_len t
          rw [ht] at h1
          simp at h1
          exact ⟨by omega, by omega, by simp [Ask.size, Ask.sizes]; omega⟩
        · cases h
      · rename_i t ht
        cases h
        have h1 := rest_len s
        have h2 := rest_len t
        rw [ht] at h1
        simp at h1
        exact ⟨by omega, by omega, by simp [Ask.size, Ask.sizes]; omega⟩
      · cases h
end Go.Proofs.YtddcaabhbbdbpaaDoor.Ar
