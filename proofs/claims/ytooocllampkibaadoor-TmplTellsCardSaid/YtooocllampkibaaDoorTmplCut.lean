/- Plain: the first of a byte, found by its place. -/
import Derived.Test.YtooocllampkibaaDoorTmplM
namespace Go.Proofs.YtooocllampkibaaDoor
namespace Tp
theorem cutB_at {c : UInt8} : ∀ {s : Bs} {k : Nat}, s[k]? = some c → (∀ (i : Nat) (x : UInt8), i < k → s[i]? = some x → x ≠ c) → cutB c s = (s.take k, s.drop (k + 1), true)
  | [], k, h, _ => by simp at h
  | x :: s, 0, h, _ => by
    have : x = c := by simpa using h
    rw [cutB, if_pos this]; simp
  | x :: s, k + 1, h, hn => by
    have hx : x ≠ c := hn 0 x (by omega) rfl
    have ih := cutB_at (s := s) (k := k) (by simpa using h) (fun i y hi hy => hn (i + 1) y (by omega) (by simpa using hy))
    rw [cutB, if_neg hx, ih]; simp
theorem cutB_none {c : UInt8} : ∀ {s : Bs}, (∀ (i : Nat) (x : UInt8), s[i]? = some x → x ≠ c) → cutB c s = (s, [], false)
  | [], _ => rfl
  | x :: s, hn => by
    have hx : x ≠ c := hn 0 x rfl
    have ih := cutB_none (s := s) (fun i y hy => hn (i + 1) y (by simpa using hy))
    rw [cutB, if_neg hx, ih]
theorem drop_at {L : Bs} {i : Nat} {c : UInt8} (h : L[i]? = some c) : L.drop i = c :: L.drop (i + 1) := by
  obtain ⟨h1, h2⟩ := List.getElem?_eq_some_iff.1 h
  rw [List.drop_eq_getElem_cons h1, h2]
/-- a round of Script at a gap that closes -/
theorem scr_at_gap {L : Bs} {i e : Nat} {d : UInt8} (h : L[i]? = some D) (hd : L[i + 1]? = some d) (hn : d ≠ D) (hie : i < e) (he : L[e]? = some E) (ho : ∀ (j : Nat) (x : UInt8), i ≤ j → j < e → L[j]? = some x → x ≠ E) :
    scr (L.drop i) = if d = O ∧ lab ((L.drop (i + 2)).take (e - (i + 2))) = true then (scr (L.drop (e + 1))).map (⟨true, (L.drop (i + 2)).take (e - (i + 2))⟩ :: ·) else none := by
  have hc : cutB E (d :: L.drop (i + 2)) = ((d :: L.drop (i + 2)).take (e - (i + 1)), (d :: L.drop (i + 2)).drop (e - (i + 1) + 1), true) := by
    rw [← drop_at hd]
    refine cutB_at ?_ ?_
    · rw [List.getElem?_drop, show i + 1 + (e - (i + 1)) = e from by omega]; exact he
    · intro j x hj hx
      rw [List.getElem?_drop] at hx
      exact ho (i + 1 + j) x (by omega) (by omega) hx
  have h1 : ((d :: L.drop (i + 2)).take (e - (i + 1))).drop 1 = (L.drop (i + 2)).take (e - (i + 2)) := by
    rw [List.drop_take]; simp [show e - (i + 1) - 1 = e - (i + 2) from by omega]
  have h2 : (d :: L.drop (i + 2)).drop (e - (i + 1) + 1) = L.drop (e + 1) := by
    rw [← drop_at hd, List.drop_drop]; congr 1; omega
  rw [drop_at h, drop_at hd, scr_gap hn, hc]
  simp only [h1, h2, true_and]
/-- a round of Script at a gap that does not close -/
theorem scr_at_open {L : Bs} {i : Nat} {d : UInt8} (h : L[i]? = some D) (hd : L[i + 1]? = some d) (hn : d ≠ D) (ho : ∀ (j : Nat) (x : UInt8), i ≤ j → L[j]? = some x → x ≠ E) : scr (L.drop i) = none := by
  have hc : cutB E (d :: L.drop (i + 2)) = (d :: L.drop (i + 2), [], false) := by
    rw [← drop_at hd]
    refine cutB_none ?_
    intro j x hx
    rw [List.getElem?_drop] at hx
    exact ho (i + 1 + j) x (by omega) hx
  rw [drop_at h, drop_at hd, scr_gap hn, hc]
  simp
theorem scr_at_end {L : Bs} {i : Nat} (h : L[i]? = some D) (hl : L.length = i + 1) : scr (L.drop i) = none := by
  rw [drop_at h, List.drop_eq_nil_of_le (by omega)]; exact scr_end
theorem scr_at_char {L : Bs} {i : Nat} {c : UInt8} (h : L[i]? = some c) (hn : c ≠ D) : scr (L.drop i) = (scr (L.drop (i + 1))).map (⟨false, [c]⟩ :: ·) := by
  rw [drop_at h, scr_char hn]
theorem scr_at_two {L : Bs} {i : Nat} (h : L[i]? = some D) (h1 : L[i + 1]? = some D) : scr (L.drop i) = (scr (L.drop (i + 2))).map (⟨false, [D]⟩ :: ·) := by
  rw [drop_at h, drop_at h1, scr_two]
end Tp
end Go.Proofs.YtooocllampkibaaDoor
