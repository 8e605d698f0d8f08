/- Contracts: Run and Fits of tasks; the program's. -/
import Derived.Test.YtdbipmidjdhjpaaDueRun
namespace Go.Proofs.Ytdbipmidjdhjpaa
open Go.ChangeShapes Go.WideShapes Go.ChangeAt Go.RowKit
set_option linter.unusedVariables false
theorem tasksE_good {L : Tk} (h : tasksE L = 0) : L.length ≤ 20 ∧ tasksB L = true := by
  unfold tasksE at h
  split at h
  · cases h
  · split at h
    · exact ⟨by omega, by assumption⟩
    · cases h
def RunGood (L : Tk) (w : World) (e : Ending) (w' : World) : Prop := ∃ v1 v2, e = .returned (.tuple #[v1, v2, .int .i64 0]) ∧ IsVals w' v1 ((rowI L 200).map (Value.int .i64)) ∧ IsVals w' v2 ((lateI L L.length).map (Value.int .i64)) ∧ Below w.heap.size w w'
theorem Run_bad (L : Tk) (s : Option Addr) (n cap : Nat) (w : World) (hn : n = L.length) (hmax : n ≤ 9223372036854775807) (hL : Needs w s L) (hb : (tasksE L != 0) = true) :
    Calls Try.prog 39 #[.slice s n cap] w fun e w' => e = .returned (.tuple #[.slice none 0 0, .slice none 0 0, .int .i64 (tasksE L)]) ∧ Below w.heap.size w w' := by
  have HL := Lib.hid hL
  have HN := Lib.hid hn
  clear hL hn
  go_enter Try.func39, Try.ntmps39
  go_wp2_with (go_at_call 44; refine Calls.mono (dCheck_any L _ _ _ _ HN.out hmax HL.out) ?_; rintro e w1 ⟨rfl, hB1⟩)
  go_ret3
  exact ⟨rfl, hB1⟩
theorem Fits_bad (L : Tk) (s : Option Addr) (n cap : Nat) (w : World) (hn : n = L.length) (hmax : n ≤ 9223372036854775807) (hL : Needs w s L) (hb : (tasksE L != 0) = true) :
    Calls Try.prog 40 #[.slice s n cap] w fun e w' => e = .returned (.tuple #[.bool false, .int .i64 (tasksE L)]) ∧ Below w.heap.size w w' := by
  have HL := Lib.hid hL
  have HN := Lib.hid hn
  clear hL hn
  go_enter Try.func40, Try.ntmps40
  go_wp2_with (go_at_call 44; refine Calls.mono (dCheck_any L _ _ _ _ HN.out hmax HL.out) ?_; rintro e w1 ⟨rfl, hB1⟩)
  go_ret2
  exact ⟨rfl, hB1⟩
theorem Needs.below {w w' : World} {s : Option Addr} {L : Tk} (h : Needs w s L) {B : Nat} (hb : Below B w w') (hB : w.heap.size ≤ B) : Needs w' s L := fun hl => by
  obtain ⟨b, off, e, h1, h2⟩ := h hl
  exact ⟨b, off, e, Nat.lt_of_lt_of_le h1 hb.size, h2.below hb (by omega)⟩
set_option maxHeartbeats 1000000 in
theorem Run_good (L : Tk) (s : Option Addr) (n cap : Nat) (w : World) (hn : n = L.length) (hL : Needs w s L) (hb : tasksE L = 0) :
    Calls Try.prog 39 #[.slice s n cap] w (RunGood L w) := by
  have HL := Lib.hid hL
  have HN := Lib.hid hn
  have HE := Lib.hid hb
  have hmax : n ≤ 20 := by have := (tasksE_good hb).1; omega
  clear hL hn hb
  go_enter Try.func39, Try.ntmps39
  go_wp2_with (first
    | (go_at_call 44; refine Calls.mono (dCheck_any L _ _ _ _ HN.out (by omega) HL.out) ?_; rintro e w1 ⟨rfl, hB1⟩; rw [HE.out])
    | (go_at_call 65; refine Calls.mono (run_any L _ _ _ _ HN.out hmax (HL.out.below hB1 (Nat.le_refl _)) (tasksE_good HE.out).2) ?_; rintro e w2 ⟨v1, v2, rfl, i1, i2, hB2⟩))
  go_ret3
  exact ⟨v1, v2, rfl, i1, HN.out ▸ i2, hB1.trans (hB2.mono hB1.size)⟩
set_option maxHeartbeats 1000000 in
theorem Fits_good (L : Tk) (s : Option Addr) (n cap : Nat) (w : World) (hn : n = L.length) (hL : Needs w s L) (hb : tasksE L = 0) :
    Calls Try.prog 40 #[.slice s n cap] w fun e w' => e = .returned (.tuple #[.bool (lateI L L.length).isEmpty, .int .i64 0]) ∧ Below w.heap.size w w' := by
  have HL := Lib.hid hL
  have HN := Lib.hid hn
  have HE := Lib.hid hb
  have hmax : n ≤ 20 := by have := (tasksE_good hb).1; omega
  clear hL hn hb
  cases hl : lateI L L.length with
  | nil =>
    have HLA := Lib.hid hl
    clear hl
    go_enter Try.func40, Try.ntmps40
    go_wp2_with (first
      | (go_at_call 44; refine Calls.mono (dCheck_any L _ _ _ _ HN.out (by omega) HL.out) ?_; rintro e w1 ⟨rfl, hB1⟩; rw [HE.out])
      | (go_at_call 65; refine Calls.mono (run_any L _ _ _ _ HN.out hmax (HL.out.below hB1 (Nat.le_refl _)) (tasksE_good HE.out).2) ?_; rintro e w2 ⟨v1, v2, rfl, i1, i2, hB2⟩; obtain ⟨a2, c2, rfl, i3⟩ := i2; rw [HN.out, HLA.out]; simp only [List.map_nil, List.length_nil]))
    go_ret2
    exact ⟨rfl, hB1.trans (hB2.mono hB1.size)⟩
  | cons x t =>
    have HLA := Lib.hid hl
    clear hl
    have hlen := Lib.hid (lateI_len L L.length)
    have ht : t.length < 20 := by have h1 := hlen.out; rw [HLA.out] at h1; have h2 := HN.out; simp only [List.length_cons] at h1; omega
    go_enter Try.func40, Try.ntmps40
    go_wp2_with (first
      | (go_at_call 44; refine Calls.mono (dCheck_any L _ _ _ _ HN.out (by omega) HL.out) ?_; rintro e w1 ⟨rfl, hB1⟩; rw [HE.out])
      | (go_at_call 65; refine Calls.mono (run_any L _ _ _ _ HN.out hmax (HL.out.below hB1 (Nat.le_refl _)) (tasksE_good HE.out).2) ?_; rintro e w2 ⟨v1, v2, rfl, i1, i2, hB2⟩; obtain ⟨a2, c2, rfl, i3⟩ := i2; rw [HN.out, HLA.out]; simp only [List.map_cons, List.length_cons, List.length_map]))
    go_ret2
    exact ⟨by simp; omega, hB1.trans (hB2.mono hB1.size)⟩
end Go.Proofs.Ytdbipmidjdhjpaa
