/- Plain: a script by cuts: a text up to the next dollar, what stands behind it. And the library's cuts at one byte. -/
import Derived.Test.YtooocllampkibaaDoorTmplRow
import Derived.Test.YtooocllampkibaaDoorShelf
namespace Go.Proofs.YtooocllampkibaaDoor
open Go.ChangeShapes Go.WideShapes Go.ChangeAt Go.RowKit
set_option linter.unusedVariables false
namespace Tp
/-- without a byte at the front -/
def pre (c : UInt8) : Bs → Bs × Bool
  | [] => ([], false)
  | x :: s => if x = c then (s, true) else (x :: s, false)
theorem pre_lib (c : UInt8) (s : Bs) : Lib.trimPrefix s [c] = (pre c s).1 ∧ Lib.hasPrefix s [c] = (pre c s).2 := by
  cases s with
  | nil => exact ⟨rfl, rfl⟩
  | cons x s =>
    unfold Lib.trimPrefix Lib.hasPrefix
    rw [pre]
    by_cases h : x = c
    · subst h; simp [List.isPrefixOf]
    · have h2 : (c == x) = false := by simpa using fun e : c = x => h e.symm
      simp [List.isPrefixOf, h, h2]
theorem pre_yes {c : UInt8} {s : Bs} (h : (pre c s).2 = true) : s = c :: (pre c s).1 := by
  cases s with
  | nil => cases h
  | cons x s =>
    rw [pre] at h ⊢
    split at h
    · rename_i e; rw [if_pos e, e]
    · cases h
theorem pre_no {c : UInt8} {s : Bs} (h : (pre c s).2 = false) : ∀ x t, s = x :: t → x ≠ c := by
  cases s with
  | nil => intro x t e; cases e
  | cons x s =>
    intro y t e; cases e
    rw [pre] at h
    split at h
    · cases h
    · rename_i e; exact e
theorem pre_len (c : UInt8) (s : Bs) : (pre c s).1.length ≤ s.length := by
  cases s with
  | nil => exact Nat.le_refl _
  | cons x s =>
    rw [pre]
    split
    · simp
    · exact Nat.le_refl _
/-- one text as parts -/
def chars (f : Bs) : List Part := f.map fun c => ⟨false, [c]⟩
/-- a text alone -/
theorem scr_all {r : Bs} (h : (cutB D r).2.2 = false) : scr r = some (chars (cutB D r).1) := by
  obtain ⟨h1, h2, h3⟩ := cutB_miss h
  rw [h1]
  have := scr_text r [] h3
  rw [List.append_nil] at this
  rw [this, scr_nil]; simp [chars]
/-- a text, a dollar -/
theorem scr_front {r : Bs} (h : (cutB D r).2.2 = true) : scr r = (scr (D :: (cutB D r).2.1)).map (chars (cutB D r).1 ++ ·) := by
  obtain ⟨h1, h2⟩ := cutB_hit h
  have := scr_text (cutB D r).1 (D :: (cutB D r).2.1) h2
  rw [← h1] at this
  exact this
theorem scr_dollar {t : Bs} (h : (pre D t).2 = true) : scr (D :: t) = (scr (pre D t).1).map (⟨false, [D]⟩ :: ·) := by
  have e := pre_yes h
  have := scr_two (pre D t).1
  rw [← e] at this
  exact this
theorem scr_name {t : Bs} (h : (pre D t).2 = false) : scr (D :: t) = if (pre O (cutB E t).1).2 = true ∧ (cutB E t).2.2 = true ∧ lab (pre O (cutB E t).1).1 = true then (scr (cutB E t).2.1).map (⟨true, (pre O (cutB E t).1).1⟩ :: ·) else none := by
  cases t with
  | nil => rw [scr_end, if_neg (fun hh => by cases hh.1)]
  | cons d s =>
    rw [scr_gap (pre_no h d s rfl)]
    by_cases hc : (cutB E (d :: s)).2.2 = true
    · by_cases hd : d = O
      · subst hd
        have hn : ¬ O = E := by decide
        have e1 : (cutB E (O :: s)).1 = O :: (cutB E s).1 := by rw [cutB, if_neg hn]
        rw [e1, pre, if_pos rfl]
        simp [hc]
      · rw [if_neg (fun hh => hd hh.2.1), if_neg]
        intro hh
        have h1 := hh.1
        rw [cutB] at h1
        split at h1
        · cases h1
        · simp only [pre] at h1
          rw [if_neg hd] at h1; cases h1
    · rw [if_neg (fun hh => hc hh.1), if_neg (fun hh => hc hh.2.1)]
theorem cut_dec (r : Bs) (h : (cutB D r).2.2 = true) : (cutB D r).2.1.length < r.length := by
  obtain ⟨h1, _⟩ := cutB_hit h
  have := congrArg List.length h1
  rw [List.length_append, List.length_cons] at this
  omega
theorem cutB_fst_len (c : UInt8) : ∀ s : Bs, (cutB c s).1.length ≤ s.length
  | [] => Nat.le_refl _
  | x :: s => by
    rw [cutB]
    split
    · simp
    · have := cutB_fst_len c s
      simp only [List.length_cons]; omega
end Tp
open Tp
theorem Cut_any (r : ByteArray) (c : UInt8) (m : Int) (w : World) (hs : r.size ≤ 4000) (hm : w.cell? ⟨0, 0, none⟩ = some (.int .i64 m)) :
    Calls Tryd.prog 26 #[.string r, .string ⟨#[c]⟩] w fun e w' => e = .returned (.tuple #[.string (bts (cutB c (lst r)).1), .string (bts (cutB c (lst r)).2.1), .bool (cutB c (lst r)).2.2]) ∧ ∃ n, w' = w.drewN n := by
  have h := Tryd.strings_Cut r ⟨#[c]⟩ m w (by omega) hm
  have e : Lib.cut r.data.toList (⟨#[c]⟩ : ByteArray).data.toList = cutB c (lst r) := cut_one c _
  rw [e] at h
  exact h
theorem CutPrefix_any (r : ByteArray) (c : UInt8) (w : World) :
    Calls Tryd.prog 27 #[.string r, .string ⟨#[c]⟩] w fun e w' => e = .returned (.tuple #[.string (bts (pre c (lst r)).1), .bool (pre c (lst r)).2]) ∧ w' = w := by
  have h := Tryd.strings_CutPrefix r ⟨#[c]⟩ w
  obtain ⟨e1, e2⟩ := pre_lib c (lst r)
  have e3 : Lib.trimPrefix r.data.toList (⟨#[c]⟩ : ByteArray).data.toList = (pre c (lst r)).1 := e1
  have e4 : Lib.hasPrefix r.data.toList (⟨#[c]⟩ : ByteArray).data.toList = (pre c (lst r)).2 := e2
  rw [e3, e4] at h
  exact h
end Go.Proofs.YtooocllampkibaaDoor
