/- A frame of which seven slots have turned: slots 70, 71, 72, 74, 75, 79, 80. -/
import Derived.Test.YtfjoakhcgpckgaaBase
namespace Go.Proofs.Ytfjoakhcgpckgaa
open Go.ChangeShapes Go.WideShapes Go.ChangeAt Go.RowKit
set_option linter.unusedVariables false
structure AA (a1 : Act) (x70 x71 x72 x74 x75 x79 x80 : Value) (a : Act) : Prop where
  dfr : a.defers = a1.defers
  size : a.tmps.size = a1.tmps.size
  far : ∀ k, k ≠ 70 → k ≠ 71 → k ≠ 72 → k ≠ 74 → k ≠ 75 → k ≠ 79 → k ≠ 80 → a.tmps[k]? = a1.tmps[k]?
  s70 : a.tmps[70]? = some x70
  s71 : a.tmps[71]? = some x71
  s72 : a.tmps[72]? = some x72
  s74 : a.tmps[74]? = some x74
  s75 : a.tmps[75]? = some x75
  s79 : a.tmps[79]? = some x79
  s80 : a.tmps[80]? = some x80
section
variable {a1 a : Act} {x70 x71 x72 x74 x75 x79 x80 y : Value}
theorem AA.start (h : True) (h70 : a1.tmps[70]? = some x70) (h71 : a1.tmps[71]? = some x71) (h72 : a1.tmps[72]? = some x72) (h74 : a1.tmps[74]? = some x74) (h75 : a1.tmps[75]? = some x75) (h79 : a1.tmps[79]? = some x79) (h80 : a1.tmps[80]? = some x80) : AA a1 x70 x71 x72 x74 x75 x79 x80 a1 := ⟨rfl, rfl, fun _ _ _ _ _ _ _ _ => rfl, h70, h71, h72, h74, h75, h79, h80⟩
theorem AA.put70 (h : AA a1 x70 x71 x72 x74 x75 x79 x80 a) : AA a1 y x71 x72 x74 x75 x79 x80 (a.put (some 70) y) := by
  have hl := (Array.getElem?_eq_some_iff.1 h.s70).1
  refine ⟨h.dfr, by simpa [Act.put] using h.size, fun j h70 h71 h72 h74 h75 h79 h80 => ?_, ?_, ?_, ?_, ?_, ?_, ?_, ?_⟩
  · simp only [Act.put]; rw [Array.getElem?_setIfInBounds_ne (Ne.symm h70)]; exact h.far j h70 h71 h72 h74 h75 h79 h80
  · simp only [Act.put]; rw [Array.getElem?_setIfInBounds_self_of_lt hl]
  · simp only [Act.put]; rw [Array.getElem?_setIfInBounds_ne (by decide)]; exact h.s71
  · simp only [Act.put]; rw [Array.getElem?_setIfInBounds_ne (by decide)]; exact h.s72
  · simp only [Act.put]; rw [Array.getElem?_setIfInBounds_ne (by decide)]; exact h.s74
  · simp only [Act.put]; rw [Array.getElem?_setIfInBounds_ne (by decide)]; exact h.s75
  · simp only [Act.put]; rw [Array.getElem?_setIfInBounds_ne (by decide)]; exact h.s79
  · simp only [Act.put]; rw [Array.getElem?_setIfInBounds_ne (by decide)]; exact h.s80
theorem AA.put71 (h : AA a1 x70 x71 x72 x74 x75 x79 x80 a) : AA a1 x70 y x72 x74 x75 x79 x80 (a.put (some 71) y) := by
  have hl := (Array.getElem?_eq_some_iff.1 h.s71).1
  refine ⟨h.dfr, by simpa [Act.put] using h.size, fun j h70 h71 h72 h74 h75 h79 h80 => ?_, ?_, ?_, ?_, ?_, ?_, ?_, ?_⟩
  · simp only [Act.put]; rw [Array.getElem?_setIfInBounds_ne (Ne.symm h71)]; exact h.far j h70 h71 h72 h74 h75 h79 h80
  · simp only [Act.put]; rw [Array.getElem?_setIfInBounds_ne (by decide)]; exact h.s70
  · simp only [Act.put]; rw [Array.getElem?_setIfInBounds_self_of_lt hl]
  · simp only [Act.put]; rw [Array.getElem?_setIfInBounds_ne (by decide)]; exact h.s72
  · simp only [Act.put]; rw [Array.getElem?_setIfInBounds_ne (by decide)]; exact h.s74
  · simp only [Act.put]; rw [Array.getElem?_setIfInBounds_ne (by decide)]; exact h.s75
  · simp only [Act.put]; rw [Array.getElem?_setIfInBounds_ne (by decide)]; exact h.s79
  · simp only [Act.put]; rw [Array.getElem?_setIfInBounds_ne (by decide)]; exact h.s80
theorem AA.put72 (h : AA a1 x70 x71 x72 x74 x75 x79 x80 a) : AA a1 x70 x71 y x74 x75 x79 x80 (a.put (some 72) y) := by
  have hl := (Array.getElem?_eq_some_iff.1 h.s72).1
  refine ⟨h.dfr, by simpa [Act.put] using h.size, fun j h70 h71 h72 h74 h75 h79 h80 => ?_, ?_, ?_, ?_, ?_, ?_, ?_, ?_⟩
  · simp only [Act.put]; rw [Array.getElem?_setIfInBounds_ne (Ne.symm h72)]; exact h.far j h70 h71 h72 h74 h75 h79 h80
  · simp only [Act.put]; rw [Array.getElem?_setIfInBounds_ne (by decide)]; exact h.s70
  · simp only [Act.put]; rw [Array.getElem?_setIfInBounds_ne (by decide)]; exact h.s71
  · simp only [Act.put]; rw [Array.getElem?_setIfInBounds_self_of_lt hl]
  · simp only [Act.put]; rw [Array.getElem?_setIfInBounds_ne (by decide)]; exact h.s74
  · simp only [Act.put]; rw [Array.getElem?_setIfInBounds_ne (by decide)]; exact h.s75
  · simp only [Act.put]; rw [Array.getElem?_setIfInBounds_ne (by decide)]; exact h.s79
  · simp only [Act.put]; rw [Array.getElem?_setIfInBounds_ne (by decide)]; exact h.s80
theorem AA.put74 (h : AA a1 x70 x71 x72 x74 x75 x79 x80 a) : AA a1 x70 x71 x72 y x75 x79 x80 (a.put (some 74) y) := by
  have hl := (Array.getElem?_eq_some_iff.1 h.s74).1
  refine ⟨h.dfr, by simpa [Act.put] using h.size, fun j h70 h71 h72 h74 h75 h79 h80 => ?_, ?_, ?_, ?_, ?_, ?_, ?_, ?_⟩
  · simp only [Act.put]; rw [Array.getElem?_setIfInBounds_ne (Ne.symm h74)]; exact h.far j h70 h71 h72 h74 h75 h79 h80
  · simp only [Act.put]; rw [Array.getElem?_setIfInBounds_ne (by decide)]; exact h.s70
  · simp only [Act.put]; rw [Array.getElem?_setIfInBounds_ne (by decide)]; exact h.s71
  · simp only [Act.put]; rw [Array.getElem?_setIfInBounds_ne (by decide)]; exact h.s72
  · simp only [Act.put]; rw [Array.getElem?_setIfInBounds_self_of_lt hl]
  · simp only [Act.put]; rw [Array.getElem?_setIfInBounds_ne (by decide)]; exact h.s75
  · simp only [Act.put]; rw [Array.getElem?_setIfInBounds_ne (by decide)]; exact h.s79
  · simp only [Act.put]; rw [Array.getElem?_setIfInBounds_ne (by decide)]; exact h.s80
theorem AA.put75 (h : AA a1 x70 x71 x72 x74 x75 x79 x80 a) : AA a1 x70 x71 x72 x74 y x79 x80 (a.put (some 75) y) := by
  have hl := (Array.getElem?_eq_some_iff.1 h.s75).1
  refine ⟨h.dfr, by simpa [Act.put] using h.size, fun j h70 h71 h72 h74 h75 h79 h80 => ?_, ?_, ?_, ?_, ?_, ?_, ?_, ?_⟩
  · simp only [Act.put]; rw [Array.getElem?_setIfInBounds_ne (Ne.symm h75)]; exact h.far j h70 h71 h72 h74 h75 h79 h80
  · simp only [Act.put]; rw [Array.getElem?_setIfInBounds_ne (by decide)]; exact h.s70
  · simp only [Act.put]; rw [Array.getElem?_setIfInBounds_ne (by decide)]; exact h.s71
  · simp only [Act.put]; rw [Array.getElem?_setIfInBounds_ne (by decide)]; exact h.s72
  · simp only [Act.put]; rw [Array.getElem?_setIfInBounds_ne (by decide)]; exact h.s74
  · simp only [Act.put]; rw [Array.getElem?_setIfInBounds_self_of_lt hl]
  · simp only [Act.put]; rw [Array.getElem?_setIfInBounds_ne (by decide)]; exact h.s79
  · simp only [Act.put]; rw [Array.getElem?_setIfInBounds_ne (by decide)]; exact h.s80
theorem AA.put79 (h : AA a1 x70 x71 x72 x74 x75 x79 x80 a) : AA a1 x70 x71 x72 x74 x75 y x80 (a.put (some 79) y) := by
  have hl := (Array.getElem?_eq_some_iff.1 h.s79).1
  refine ⟨h.dfr, by simpa [Act.put] using h.size, fun j h70 h71 h72 h74 h75 h79 h80 => ?_, ?_, ?_, ?_, ?_, ?_, ?_, ?_⟩
  · simp only [Act.put]; rw [Array.getElem?_setIfInBounds_ne (Ne.symm h79)]; exact h.far j h70 h71 h72 h74 h75 h79 h80
  · simp only [Act.put]; rw [Array.getElem?_setIfInBounds_ne (by decide)]; exact h.s70
  · simp only [Act.put]; rw [Array.getElem?_setIfInBounds_ne (by decide)]; exact h.s71
  · simp only [Act.put]; rw [Array.getElem?_setIfInBounds_ne (by decide)]; exact h.s72
  · simp only [Act.put]; rw [Array.getElem?_setIfInBounds_ne (by decide)]; exact h.s74
  · simp only [Act.put]; rw [Array.getElem?_setIfInBounds_ne (by decide)]; exact h.s75
  · simp only [Act.put]; rw [Array.getElem?_setIfInBounds_self_of_lt hl]
  · simp only [Act.put]; rw [Array.getElem?_setIfInBounds_ne (by decide)]; exact h.s80
theorem AA.put80 (h : AA a1 x70 x71 x72 x74 x75 x79 x80 a) : AA a1 x70 x71 x72 x74 x75 x79 y (a.put (some 80) y) := by
  have hl := (Array.getElem?_eq_some_iff.1 h.s80).1
  refine ⟨h.dfr, by simpa [Act.put] using h.size, fun j h70 h71 h72 h74 h75 h79 h80 => ?_, ?_, ?_, ?_, ?_, ?_, ?_, ?_⟩
  · simp only [Act.put]; rw [Array.getElem?_setIfInBounds_ne (Ne.symm h80)]; exact h.far j h70 h71 h72 h74 h75 h79 h80
  · simp only [Act.put]; rw [Array.getElem?_setIfInBounds_ne (by decide)]; exact h.s70
  · simp only [Act.put]; rw [Array.getElem?_setIfInBounds_ne (by decide)]; exact h.s71
  · simp only [Act.put]; rw [Array.getElem?_setIfInBounds_ne (by decide)]; exact h.s72
  · simp only [Act.put]; rw [Array.getElem?_setIfInBounds_ne (by decide)]; exact h.s74
  · simp only [Act.put]; rw [Array.getElem?_setIfInBounds_ne (by decide)]; exact h.s75
  · simp only [Act.put]; rw [Array.getElem?_setIfInBounds_ne (by decide)]; exact h.s79
  · simp only [Act.put]; rw [Array.getElem?_setIfInBounds_self_of_lt hl]
theorem AA.eq (h : AA a1 x70 x71 x72 x74 x75 x79 x80 a) : a = (((((((a1.put (some 70) x70).put (some 71) x71).put (some 72) x72).put (some 74) x74).put (some 75) x75).put (some 79) x79).put (some 80) x80) := by
  obtain ⟨tm, df⟩ := a
  have hd := h.dfr
  have hs := h.size
  simp only at hd hs
  subst hd
  simp only [Act.put, Act.mk.injEq, and_true]
  apply Array.ext_getElem?
  intro j
  by_cases h70 : j = 70
  · subst h70; have e := h.s70; have hl := (Array.getElem?_eq_some_iff.1 e).1; simp only at e hl; rw [e]; simp [Array.getElem?_setIfInBounds]; omega
  by_cases h71 : j = 71
  · subst h71; have e := h.s71; have hl := (Array.getElem?_eq_some_iff.1 e).1; simp only at e hl; rw [e]; simp [Array.getElem?_setIfInBounds]; omega
  by_cases h72 : j = 72
  · subst h72; have e := h.s72; have hl := (Array.getElem?_eq_some_iff.1 e).1; simp only at e hl; rw [e]; simp [Array.getElem?_setIfInBounds]; omega
  by_cases h74 : j = 74
  · subst h74; have e := h.s74; have hl := (Array.getElem?_eq_some_iff.1 e).1; simp only at e hl; rw [e]; simp [Array.getElem?_setIfInBounds]; omega
  by_cases h75 : j = 75
  · subst h75; have e := h.s75; have hl := (Array.getElem?_eq_some_iff.1 e).1; simp only at e hl; rw [e]; simp [Array.getElem?_setIfInBounds]; omega
  by_cases h79 : j = 79
  · subst h79; have e := h.s79; have hl := (Array.getElem?_eq_some_iff.1 e).1; simp only at e hl; rw [e]; simp [Array.getElem?_setIfInBounds]; omega
  by_cases h80 : j = 80
  · subst h80; have e := h.s80; have hl := (Array.getElem?_eq_some_iff.1 e).1; simp only at e hl; rw [e]; simp [Array.getElem?_setIfInBounds]; omega
  have e := h.far j h70 h71 h72 h74 h75 h79 h80
  simp only at e
  rw [e]
  rw [Array.getElem?_setIfInBounds_ne (Ne.symm h80), Array.getElem?_setIfInBounds_ne (Ne.symm h79), Array.getElem?_setIfInBounds_ne (Ne.symm h75), Array.getElem?_setIfInBounds_ne (Ne.symm h74), Array.getElem?_setIfInBounds_ne (Ne.symm h72), Array.getElem?_setIfInBounds_ne (Ne.symm h71), Array.getElem?_setIfInBounds_ne (Ne.symm h70)]
end
end Go.Proofs.Ytfjoakhcgpckgaa
