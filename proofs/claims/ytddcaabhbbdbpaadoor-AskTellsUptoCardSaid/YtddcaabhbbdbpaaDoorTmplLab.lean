/- Contracts: is a text a label? The document's. -/
import Derived.Test.YtddcaabhbbdbpaaDoorBase
import Derived.Test.YtddcaabhbbdbpaaDoorTmplM
import Derived.Test.YtddcaabhbbdbpaaDoorLst
import Derived.Laws.Strings2
import Derived.Laws.IdiomStrings
import Derived.WalkSpells
import Derived.Deep.LoopGhost
namespace Go.Proofs.YtddcaabhbbdbpaaDoor
open Go.ChangeShapes Go.WideShapes Go.ChangeAt Go.RowKit
set_option linter.unusedVariables false
open Tp
namespace Tp
def PG (L : Bs) (j : Nat) : Prop := ∀ i c, i < j → L[i]? = some c → labC c = true ∧ (i = 0 → small c = true)
theorem PG.zero (L : Bs) : PG L 0 := fun i c h => absurd h (by omega)
theorem PG.succ {L : Bs} {j : Nat} {c : UInt8} (h : PG L j) (hj : L[j]? = some c) (h1 : labC c = true) (h2 : j = 0 → small c = true) : PG L (j + 1) := fun i c' hi hc' => by
  by_cases e : i = j
  · subst e; rw [hj] at hc'; cases hc'; exact ⟨h1, h2⟩
  · exact h i c' (by omega) hc'
theorem lab_true {L : Bs} (h1 : 1 ≤ L.length) (h2 : L.length ≤ 20) (h : PG L L.length) : lab L = true := by
  cases L with
  | nil => simp at h1
  | cons c s =>
    have hc := h 0 c (by simp) rfl
    have hs : s.all labC = true := List.all_eq_true.2 fun x hx => by
      obtain ⟨i, hi, rfl⟩ := List.getElem_of_mem hx
      exact (h (i + 1) s[i] (by simpa using hi) (by simp)).1
    simp only [List.length_cons] at h2
    rw [lab, hc.2 rfl, hs]
    simp
    omega
theorem lab_len {L : Bs} (h : L.length < 1 ∨ 20 < L.length) : lab L = false := by
  cases L with
  | nil => rfl
  | cons c s =>
    simp only [List.length_cons] at h
    rw [lab]
    have : decide (s.length < 20) = false := by simp; omega
    rw [this]; simp
theorem lab_bad {L : Bs} {j : Nat} {c : UInt8} (hj : L[j]? = some c) (h : labC c = false ∨ (j = 0 ∧ small c = false)) : lab L = false := by
  cases L with
  | nil => rfl
  | cons d s =>
    rw [lab]
    cases j with
    | zero =>
      have e : d = c := by simpa using hj
      subst e
      have : small d = false := by
        rcases h with h | h
        · unfold labC at h
          cases hs : small d with
          | false => rfl
          | true => rw [hs] at h; simp at h
        · exact h.2
      rw [this]; rfl
    | succ j =>
      have hc : labC c = false := by
        rcases h with h | h
        · exact h
        · omega
      have hj' : s[j]? = some c := by simpa using hj
      have : s.all labC = false := by
        cases ha : s.all labC with
        | false => rfl
        | true => rw [List.all_eq_true.1 ha c (List.mem_of_getElem? hj')] at hc; cases hc
      rw [this]; simp
end Tp
set_option maxRecDepth 20000 in
set_option maxHeartbeats 4000000 in
theorem gLabel_any (s : ByteArray) (w : World) (hs : s.size ≤ 9223372036854775807) : Calls Tryd.prog 24 #[.string s] w fun e w' => e = .returned (.bool (lab (lst s))) ∧ Below w.heap.size w w' := by
  obtain ⟨n, hn⟩ : ∃ n, s.size = n := ⟨_, rfl⟩
  have HN := Lib.hid hn
  rw [hn] at hs
  go_enter Tryd.func24, Tryd.ntmps24
  go_wp2_with fail
  go_loopg [7] n (fun g y wr => ∃ j : Nat, j + g = n ∧ y = .int .i64 (j : Int) ∧ Hid (PG (lst s) j) ∧ Hid (Below w.heap.size w wr))
  case atStart => exact ⟨0, by omega, rfl, Lib.hid (PG.zero _), Lib.hid (Below.refl _ _)⟩
  case round =>
    obtain ⟨j, hj, rfl, HP, HB⟩ := hrel
    by_cases hjn : j < n
    · obtain ⟨c, hc⟩ : ∃ c, (lst s)[j]? = some c := ⟨_, List.getElem?_eq_getElem (by rw [lst_len, hn]; exact hjn)⟩
      have hjs : j < s.size := by omega
      obtain ⟨z, hz⟩ : ∃ z : Int, (c.toNat : Int) = z := ⟨_, rfl⟩
      have gj : ∀ h : j < s.size, ((s[j]'h).toNat : Int) = z := fun h => by rw [lst_at hc h]; exact hz
      have hj1 : (0 : Int) ≤ (j : Int) := by omega
      have hj2 : (j : Int) < (n : Int) := by omega
      have hz0 : 0 ≤ z := by omega
      have HC := Lib.hid hc
      have HZ := Lib.hid hz
      have HSM : Hid (small c = decide (97 ≤ z ∧ z ≤ 122)) := Lib.hid (by rw [small]; congr 1; apply propext; omega)
      have HLC : Hid (labC c = (decide (97 ≤ z ∧ z ≤ 122) || decide (48 ≤ z ∧ z ≤ 57) || decide (z = 45))) := Lib.hid (by
        rw [labC, HSM.out]
        congr 1
        · congr 1; apply decide_eq_decide.2; omega
        · apply decide_eq_decide.2; omega)
      clear hc hz
      by_cases hsm : 97 ≤ z ∧ z ≤ 122
      · obtain ⟨s1, s2⟩ := hsm
        have HQ : Hid (PG (lst s) (j + 1)) := Lib.hid (HP.out.succ HC.out (by rw [HLC.out]; first | (simp; done) | (simp; omega)) (fun h => by first | omega | (rw [HSM.out]; simp; omega)))
        go_wp2_with fail
        go_roundg (n - (j + 1))
        case measure => omega
        case rel => exact ⟨j + 1, by omega, by simp, HQ, HB⟩
      have hcase : (j = 0 ∧ z < 97) ∨ (j = 0 ∧ 97 ≤ z ∧ 122 < z) ∨ (0 < j ∧ z < 97 ∧ z = 45) ∨ (0 < j ∧ z < 97 ∧ z ≠ 45 ∧ z < 48) ∨ (0 < j ∧ z < 97 ∧ z ≠ 45 ∧ 48 ≤ z ∧ z ≤ 57) ∨ (0 < j ∧ z < 97 ∧ z ≠ 45 ∧ 57 < z) ∨ (0 < j ∧ 97 ≤ z ∧ 122 < z) := by omega
      clear hsm
      rcases hcase with ⟨rfl, t1⟩ | ⟨rfl, t1, t2⟩ | ⟨t0, t1, rfl⟩ | ⟨t0, t1, t2, t3⟩ | ⟨t0, t1, t2, t3, t4⟩ | ⟨t0, t1, t2, t3⟩ | ⟨t0, t1, t2⟩
      · have HV : Hid (lab (lst s) = false) := Lib.hid (lab_bad HC.out (by right; exact ⟨by omega, by rw [HSM.out]; simp; omega⟩))
        go_wp2_with fail
        go_ret
        exact ⟨ret_bool HV.out.symm, HB.out⟩
      · have hz122 : ¬ z ≤ 122 := by omega
        have HV : Hid (lab (lst s) = false) := Lib.hid (lab_bad HC.out (by right; exact ⟨by omega, by rw [HSM.out]; simp; omega⟩))
        go_wp2_with fail
        go_ret
        exact ⟨ret_bool HV.out.symm, HB.out⟩
      · have hj0 : ((j : Int) == 0) = false := by simp; omega
        have HQ : Hid (PG (lst s) (j + 1)) := Lib.hid (HP.out.succ HC.out (by rw [HLC.out]; first | (simp; done) | (simp; omega)) (fun h => by first | omega | (rw [HSM.out]; simp; omega)))
        go_wp2_with fail
        go_roundg (n - (j + 1))
        case measure => omega
        case rel => exact ⟨j + 1, by omega, by simp, HQ, HB⟩
      · have hj0 : ((j : Int) == 0) = false := by simp; omega
        have hz45 : (z != 45) = true := by simpa using t2
        have HV : Hid (lab (lst s) = false) := Lib.hid (lab_bad HC.out (by left; rw [HLC.out]; simp; omega))
        go_wp2_with fail
        go_ret
        exact ⟨ret_bool HV.out.symm, HB.out⟩
      · have hj0 : ((j : Int) == 0) = false := by simp; omega
        have hz45 : (z != 45) = true := by simpa using t2
        have HQ : Hid (PG (lst s) (j + 1)) := Lib.hid (HP.out.succ HC.out (by rw [HLC.out]; first | (simp; done) | (simp; omega)) (fun h => by first | omega | (rw [HSM.out]; simp; omega)))
        go_wp2_with fail
        go_roundg (n - (j + 1))
        case measure => omega
        case rel => exact ⟨j + 1, by omega, by simp, HQ, HB⟩
      · have hj0 : ((j : Int) == 0) = false := by simp; omega
        have hz45 : (z != 45) = true := by simpa using t2
        have HV : Hid (lab (lst s) = false) := Lib.hid (lab_bad HC.out (by left; rw [HLC.out]; simp; omega))
        go_wp2_with fail
        go_ret
        exact ⟨ret_bool HV.out.symm, HB.out⟩
      · have hj0 : ((j : Int) == 0) = false := by simp; omega
        have hz45 : (z != 45) = true := by simp; omega
        have hz122 : ¬ z ≤ 122 := by omega
        have HV : Hid (lab (lst s) = false) := Lib.hid (lab_bad HC.out (by left; rw [HLC.out]; simp; omega))
        go_wp2_with fail
        go_ret
        exact ⟨ret_bool HV.out.symm, HB.out⟩
    · obtain rfl : j = n := by omega
      by_cases h1 : j < 1
      · have HV : Hid (lab (lst s) = false) := Lib.hid (lab_len (by rw [lst_len, HN.out]; omega))
        have h1b : ¬ (1 : Int) ≤ (j : Int) := by omega
        go_wp2_with fail
        go_ret
        exact ⟨ret_bool HV.out.symm, HB.out⟩
      · by_cases h2 : 20 < j
        · have HV : Hid (lab (lst s) = false) := Lib.hid (lab_len (by rw [lst_len, HN.out]; omega))
          have h1b : (1 : Int) ≤ (j : Int) := by omega
          have h2b : ¬ (j : Int) ≤ 20 := by omega
          go_wp2_with fail
          go_ret
          exact ⟨ret_bool HV.out.symm, HB.out⟩
        · have HV : Hid (lab (lst s) = true) := Lib.hid (lab_true (by rw [lst_len, HN.out]; omega) (by rw [lst_len, HN.out]; omega) (by rw [lst_len, HN.out]; exact HP.out))
          have h1b : (1 : Int) ≤ (j : Int) := by omega
          have h2b : (j : Int) ≤ 20 := by omega
          go_wp2_with fail
          go_ret
          exact ⟨ret_bool HV.out.symm, HB.out⟩
end Go.Proofs.YtddcaabhbbdbpaaDoor
