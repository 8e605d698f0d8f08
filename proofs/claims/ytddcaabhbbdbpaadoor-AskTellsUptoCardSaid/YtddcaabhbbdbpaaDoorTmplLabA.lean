/- Contracts: is a text a label? The program's. -/
import Derived.Test.YtddcaabhbbdbpaaDoorTmplLab
namespace Go.Proofs.YtddcaabhbbdbpaaDoor
open Go.ChangeShapes Go.WideShapes Go.ChangeAt Go.RowKit
set_option linter.unusedVariables false
open Tp
/-- the bytes of a text stand in the first block past w -/
def LabRow (s : ByteArray) (w wr : World) : Prop := Below w.heap.size w wr ∧ ∀ j c, (lst s)[j]? = some c → wr.cell? ⟨w.heap.size, j, none⟩ = some (.int .u8 (c.toNat : Int))
theorem labRow_start (w : World) (s : ByteArray) (c : Nat) (t : TypeId) (fr : Nat × Nat) : LabRow s w (w.alloc (.cells (bytesRow s c) t fr)).drew := by
  refine ⟨by go_grown, fun j d hj => ?_⟩
  show (w.alloc (.cells (bytesRow s c) t fr)).cell? ⟨w.heap.size, j, none⟩ = _
  have hj' : j < s.data.size := by
    have := (List.getElem?_eq_some_iff.1 hj).1
    rw [lst_len] at this; exact this
  rw [World.cell?_alloc_mark, bytesRow_at s c j hj', ← lst_at hj hj']
  rfl
set_option maxRecDepth 20000 in
set_option maxHeartbeats 4000000 in
theorem Label_any (s : ByteArray) (w : World) (hs : s.size ≤ 9223372036854775807) : Calls Tryd.prog 26 #[.string s] w fun e w' => e = .returned (.bool (lab (lst s))) ∧ Below w.heap.size w w' := by
  obtain ⟨n, hn⟩ : ∃ n, s.size = n := ⟨_, rfl⟩
  have HN := Lib.hid hn
  rw [hn] at hs
  by_cases h0 : n = 0
  · have HV : Hid (lab (lst s) = false) := Lib.hid (lab_len (by rw [lst_len, HN.out]; omega))
    obtain rfl : s = ⟨#[]⟩ := by
      cases s with
      | mk d => congr 1; exact Array.eq_empty_of_size_eq_zero (by rw [← h0]; exact hn)
    go_enter Tryd.func26, Tryd.ntmps26
    go_wp2_with fail
    go_ret
    exact ⟨ret_bool HV.out.symm, Below.refl _ _⟩
  have hne : ¬ s.toList = [] := fun h => h0 (by
    have e : s.toList.length = s.size := by rw [ByteArray.toList_eq]; exact lst_len s
    rw [← hn, ← e, h]; rfl)
  by_cases h20 : 20 < n
  · have HV : Hid (lab (lst s) = false) := Lib.hid (lab_len (by rw [lst_len, HN.out]; omega))
    go_enter Tryd.func26, Tryd.ntmps26
    go_wp2_with fail
    go_ret
    exact ⟨ret_bool HV.out.symm, Below.refl _ _⟩
  have hne2 : s.toList.isEmpty = false := by
    cases h : s.toList with
    | nil => exact absurd h hne
    | cons _ _ => rfl
  obtain ⟨c, hc⟩ : ∃ c, (lst s)[0]? = some c := ⟨_, List.getElem?_eq_getElem (by rw [lst_len, hn]; omega)⟩
  obtain ⟨z, hz⟩ : ∃ z : Int, (c.toNat : Int) = z := ⟨_, rfl⟩
  have gj : ∀ h : 0 < s.size, ((s[0]'h).toNat : Int) = z := fun h => by rw [lst_at hc h]; exact hz
  have hz0 : 0 ≤ z := by omega
  have hb1 : ¬ (n : Int) > 20 := by omega
  have HC := Lib.hid hc
  have HZ := Lib.hid hz
  have HSM : Hid (small c = decide (97 ≤ z ∧ z ≤ 122)) := Lib.hid (by rw [small]; congr 1; apply propext; omega)
  clear hc hz
  by_cases hsm : 97 ≤ z ∧ z ≤ 122
  · obtain ⟨s1, s2⟩ := hsm
    have hcv := fun w => run_bytes_of_string (P := Tryd.prog) w 9 62 5 s Tryd.underlying9 Tryd.underlying62 Tryd.underlying5
    have H0 : Hid (∀ d, (lst s)[0]? = some d → small d = true) := Lib.hid (fun d hd => by
      have := HC.out; rw [hd] at this; cases this; rw [HSM.out]; simp; omega)
    clear HC HZ HSM
    go_enter Tryd.func26, Tryd.ntmps26
    go_wp2_with fail
    go_loopg [25] n (fun g y wr => ∃ j : Nat, j + g = n ∧ y = .int .i64 (j : Int) ∧ Hid (PG (lst s) j) ∧ LabRow s w wr)
    case atStart => exact ⟨0, by omega, rfl, Lib.hid (PG.zero _), labRow_start w s _ _ _⟩
    case round =>
      obtain ⟨j, hj, rfl, HP, hB, hrow⟩ := hrel
      by_cases hjn : j < n
      · obtain ⟨c, hc⟩ : ∃ c, (lst s)[j]? = some c := ⟨_, List.getElem?_eq_getElem (by rw [lst_len, HN.out]; exact hjn)⟩
        have hr := hrow j c hc
        have HR := Lib.hid hrow
        have HB := Lib.hid hB
        have hbh := hB.1
        obtain ⟨z, hz⟩ : ∃ z : Int, (c.toNat : Int) = z := ⟨_, rfl⟩
        rw [hz] at hr
        have hj1 : (0 : Int) ≤ (j : Int) := by omega
        have hj2 : (j : Int) < (n : Int) := by omega
        have hz0 : 0 ≤ z := by omega
        have HC := Lib.hid hc
        have HSM : Hid (small c = decide (97 ≤ z ∧ z ≤ 122)) := Lib.hid (by rw [small]; congr 1; apply propext; omega)
        have HLC : Hid (labC c = (decide (97 ≤ z ∧ z ≤ 122) || decide (48 ≤ z ∧ z ≤ 57) || decide (z = 45))) := Lib.hid (by
          rw [labC, HSM.out]
          congr 1
          · congr 1; apply decide_eq_decide.2; omega
          · apply decide_eq_decide.2; omega)
        clear hc hz hrow hB
        by_cases hlc : labC c = true
        · have HQ : Hid (PG (lst s) (j + 1)) := Lib.hid (HP.out.succ HC.out hlc (fun h => by subst h; exact H0.out c HC.out))
          rw [HLC.out] at hlc
          have hcase : (97 ≤ z ∧ z ≤ 122) ∨ (z < 97 ∧ 48 ≤ z ∧ z ≤ 57) ∨ (z = 45) := by
            simp at hlc; omega
          rcases hcase with ⟨t1, t2⟩ | ⟨t1, t2, t3⟩ | rfl
          · go_wp2_with fail
            go_roundg (n - (j + 1))
            case measure => omega
            case rel => exact ⟨j + 1, by omega, by simp, HQ, HB.out, HR.out⟩
          · go_wp2_with fail
            go_roundg (n - (j + 1))
            case measure => omega
            case rel => exact ⟨j + 1, by omega, by simp, HQ, HB.out, HR.out⟩
          · go_wp2_with fail
            go_roundg (n - (j + 1))
            case measure => omega
            case rel => exact ⟨j + 1, by omega, by simp, HQ, HB.out, HR.out⟩
        · have HV : Hid (lab (lst s) = false) := Lib.hid (lab_bad HC.out (by left; simpa using hlc))
          rw [HLC.out] at hlc
          have hcase : (z < 97 ∧ z < 48 ∧ z ≠ 45) ∨ (z < 97 ∧ 57 < z) ∨ (97 ≤ z ∧ 122 < z) := by
            simp at hlc; omega
          clear hlc
          rcases hcase with ⟨t1, t2, t3⟩ | ⟨t1, t2⟩ | ⟨t1, t2⟩
          · have hz45 : (z != 45) = true := by simpa using t3
            go_wp2_with fail
            go_ret
            exact ⟨ret_bool HV.out.symm, HB.out⟩
          · have hz45 : (z != 45) = true := by simp; omega
            have hz48 : ¬ z < 48 := by omega
            go_wp2_with fail
            go_ret
            exact ⟨ret_bool HV.out.symm, HB.out⟩
          · have hz45 : (z != 45) = true := by simp; omega
            have hz48 : ¬ z < 48 := by omega
            have hz57 : 57 < z := by omega
            go_wp2_with fail
            go_ret
            exact ⟨ret_bool HV.out.symm, HB.out⟩
      · obtain rfl : j = n := by omega
        have HV : Hid (lab (lst s) = true) := Lib.hid (lab_true (by rw [lst_len, HN.out]; omega) (by rw [lst_len, HN.out]; omega) (by rw [lst_len, HN.out]; exact HP.out))
        have HB := Lib.hid hB
        clear hB hrow
        go_wp2_with fail
        go_ret
        exact ⟨ret_bool HV.out.symm, HB.out⟩
  · have HV : Hid (lab (lst s) = false) := Lib.hid (lab_bad HC.out (by right; exact ⟨rfl, by rw [HSM.out]; simp; omega⟩))
    by_cases h1 : z < 97
    · go_enter Tryd.func26, Tryd.ntmps26
      go_wp2_with fail
      go_ret
      exact ⟨ret_bool HV.out.symm, Below.refl _ _⟩
    · have h2 : 122 < z := by omega
      go_enter Tryd.func26, Tryd.ntmps26
      go_wp2_with fail
      go_ret
      exact ⟨ret_bool HV.out.symm, Below.refl _ _⟩
end Go.Proofs.YtddcaabhbbdbpaaDoor
