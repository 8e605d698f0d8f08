/- Plain: writing while what is written is at most 2000 bytes. -/
import Derived.Test.YtooocllampkibaaDoorTmplM
namespace Go.Proofs.YtooocllampkibaaDoor
namespace Tp
def put (acc t : Bs) : Bs := if acc.length ≤ 2000 then acc ++ t else acc
/-- what is written, beside what would be -/
def PutI (acc whole : Bs) : Prop := (whole.length ≤ 2000 → acc = whole) ∧ (2000 < whole.length → 2000 < acc.length)
theorem PutI.nil : PutI [] [] := ⟨fun _ => rfl, fun h => by simp at h⟩
theorem PutI.put {acc whole : Bs} (h : PutI acc whole) (t : Bs) : PutI (put acc t) (whole ++ t) := by
  obtain ⟨h1, h2⟩ := h
  unfold Tp.put
  refine ⟨fun hl => ?_, fun hl => ?_⟩
  · rw [List.length_append] at hl
    have e := h1 (by omega)
    rw [e, if_pos (by omega)]
  · split
    · rename_i ha
      by_cases hw : whole.length ≤ 2000
      · rw [h1 hw]; exact hl
      · have := h2 (by omega); omega
    · omega
theorem put_len (acc t : Bs) {m : Nat} (ht : t.length ≤ m) (ha : acc.length ≤ 2000 + m) : (put acc t).length ≤ 2000 + m := by
  unfold put
  split
  · rw [List.length_append]; omega
  · exact ha
theorem PutI.large {acc whole : Bs} (h : PutI acc whole) : (2000 < acc.length ↔ 2000 < whole.length) := by
  constructor
  · intro ha
    by_cases hw : whole.length ≤ 2000
    · rw [h.1 hw] at ha; exact ha
    · omega
  · exact h.2
end Tp
end Go.Proofs.YtooocllampkibaaDoor
