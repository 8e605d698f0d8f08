/- Contracts: work for several hands: what is asked of it. -/
import Derived.Test.YtfjoakhcgpckgaaShare
import Derived.Test.YtfjoakhcgpckgaaWorkM
namespace Go.Proofs.Ytfjoakhcgpckgaa
open Go.ChangeShapes Go.WideShapes Go.ChangeAt Go.RowKit
set_option linter.unusedVariables false
open Wk
def okW (x : Int) : Bool := decide (0 ≤ x ∧ x ≤ 1000000000)
def workE (m : Int) (D : List Int) : Int := if m < 1 ∨ 20 < m then 1 else if 60 < D.length then 2 else if D.all okW then 0 else 4
theorem workE_good {m : Int} {D : List Int} (h : workE m D = 0) : 1 ≤ m ∧ m ≤ 20 ∧ D.length ≤ 60 ∧ ∀ x, x ∈ D → 0 ≤ x ∧ x ≤ 1000000000 := by
  unfold workE at h
  split at h
  · cases h
  · split at h
    · cases h
    · split at h
      · rename_i h3
        exact ⟨by omega, by omega, by omega, fun x hx => by simpa [okW] using List.all_eq_true.1 h3 x hx⟩
      · cases h
theorem workE_bad {m : Int} {D : List Int} {q : Nat} {x : Int} (h1 : ¬ (m < 1 ∨ 20 < m)) (h2 : D.length ≤ 60) (hq : D[q]? = some x) (hx : okW x = false) : workE m D = 4 := by
  have : D.all okW = false := by
    cases hD : D.all okW with
    | false => rfl
    | true => rw [List.all_eq_true.1 hD x (List.mem_of_getElem? hq)] at hx; cases hx
  rw [workE, if_neg h1, if_neg (by omega), this]; rfl
theorem workE_ok {m : Int} {D : List Int} (h1 : ¬ (m < 1 ∨ 20 < m)) (h2 : D.length ≤ 60) (hx : ∀ x, x ∈ D → okW x = true) : workE m D = 0 := by
  rw [workE, if_neg h1, if_neg (by omega), List.all_eq_true.2 hx]; rfl
set_option maxRecDepth 20000 in
set_option maxHeartbeats 1600000 in
theorem wCheck_any (m : Int) (D : List Int) (a : Option Addr) (n cap : Nat) (w : World) (hn : n = D.length) (hmax : n ≤ 9223372036854775807) (hD : Vals w a (ints64 D)) :
    Calls Try.prog 128 #[.int .i64 m, .slice a n cap] w fun e w' => e = .returned (.int .i64 (workE m D)) ∧ w' = w := by
  have HD := Lib.hid hD
  have HN := Lib.hid hn
  clear hD hn
  by_cases h0 : m < 1
  · have HV := Lib.hid (show (1 : Int) = workE m D from by rw [workE, if_pos (.inl h0)])
    have h0b : decide (m < 1) = true := by simp [h0]
    go_enter Try.func128, Try.ntmps128
    go_wp2_with fail
    go_ret
    exact ⟨ret_int HV.out, rfl⟩
  · have h0b : decide (m < 1) = false := by simp only [h0, decide_false]
    by_cases h1 : 20 < m
    · have HV := Lib.hid (show (1 : Int) = workE m D from by rw [workE, if_pos (.inr h1)])
      have h1b : decide (20 < m) = true := by simp [h1]
      go_enter Try.func128, Try.ntmps128
      go_wp2_with fail
      go_ret
      exact ⟨ret_int HV.out, rfl⟩
    · have h1b : decide (20 < m) = false := by simp only [h1, decide_false]
      have HG := Lib.hid (show ¬ (m < 1 ∨ 20 < m) from by omega)
      by_cases h2 : 60 < n
      · have HV := Lib.hid (show (2 : Int) = workE m D from by rw [workE, if_neg HG.out, if_pos (by have := HN.out; omega)])
        have h2b : (n : Int) > 60 := by omega
        go_enter Try.func128, Try.ntmps128
        go_wp2_with fail
        go_ret
        exact ⟨ret_int HV.out, rfl⟩
      · have h2b : ¬ (n : Int) > 60 := by omega
        go_enter Try.func128, Try.ntmps128
        go_wp2_with fail
        go_loopg [20] n (fun gk x wr => ∃ q : Nat, q + gk = n ∧ x = .int .i64 (q : Int) ∧ Hid (∀ x, x ∈ D.take q → okW x = true) ∧ wr = w)
        case atStart => exact ⟨0, by omega, rfl, Lib.hid (by simp), rfl⟩
        case round =>
          obtain ⟨q, hq, rfl, HQ, rfl⟩ := hrel
          by_cases hqn : q < n
          · obtain ⟨x, hx⟩ : ∃ x, D[q]? = some x := ⟨_, List.getElem?_eq_getElem (by have := HN.out; omega)⟩
            obtain ⟨b, off, rfl, hb, c1⟩ := i64at HD.out hx
            have HX := Lib.hid hx
            clear hx
            have hqn2 : (q : Int) < (n : Int) := by omega
            by_cases hok : okW x = true
            · have HQ2 : Hid (∀ x, x ∈ D.take (q + 1) → okW x = true) := Lib.hid (fun y hy => by
                rw [List.take_add_one, HX.out] at hy
                rcases List.mem_append.1 hy with h | h
                · exact HQ.out y h
                · simp at h; rw [h]; exact hok)
              have hx2 : 0 ≤ x ∧ x ≤ 1000000000 := by simpa [okW] using hok
              have x1 : decide (x < 0) = false := by simp only [decide_eq_false_iff_not]; omega
              have x2 : decide (1000000000 < x) = false := by simp only [decide_eq_false_iff_not]; omega
              clear hok
              go_wp2_with fail
              go_roundg (gk - 1)
              case measure => omega
              case rel => exact ⟨q + 1, by omega, by simp, HQ2, rfl⟩
            · have hok2 : okW x = false := by simpa using hok
              have HV := Lib.hid (workE_bad (m := m) (D := D) HG.out (by have := HN.out; omega) HX.out hok2).symm
              have hx2 : x < 0 ∨ 1000000000 < x := by
                unfold okW at hok2
                simp only [decide_eq_false_iff_not] at hok2
                omega
              clear hok hok2
              by_cases hx0 : x < 0
              · have x1 : decide (x < 0) = true := by simp [hx0]
                go_wp2_with fail
                go_ret
                exact ⟨ret_int HV.out, rfl⟩
              · have x1 : decide (x < 0) = false := by simp only [hx0, decide_false]
                have x2 : decide (1000000000 < x) = true := by simp only [decide_eq_true_eq]; omega
                go_wp2_with fail
                go_ret
                exact ⟨ret_int HV.out, rfl⟩
          · have hqn2 : ¬ (q : Int) < (n : Int) := by omega
            have HV := Lib.hid (workE_ok (m := m) (D := D) HG.out (by have := HN.out; omega) (fun x hx => HQ.out x (by rw [List.take_of_length_le (by have := HN.out; omega)]; exact hx))).symm
            go_wp2_with fail
            go_ret
            exact ⟨ret_int HV.out, rfl⟩
set_option maxRecDepth 20000 in
set_option maxHeartbeats 1600000 in
theorem wFault_any (m : Int) (D : List Int) (a : Option Addr) (n cap : Nat) (w : World) (hn : n = D.length) (hmax : n ≤ 9223372036854775807) (hD : Vals w a (ints64 D)) :
    Calls Try.prog 51 #[.int .i64 m, .slice a n cap] w fun e w' => e = .returned (.int .i64 (workE m D)) ∧ w' = w := by
  have HD := Lib.hid hD
  have HN := Lib.hid hn
  clear hD hn
  by_cases h0 : m < 1
  · have HV := Lib.hid (show (1 : Int) = workE m D from by rw [workE, if_pos (.inl h0)])
    have h0b : decide (m < 1) = true := by simp [h0]
    go_enter Try.func51, Try.ntmps51
    go_wp2_with fail
    go_ret
    exact ⟨ret_int HV.out, rfl⟩
  · have h0b : decide (m < 1) = false := by simp only [h0, decide_false]
    by_cases h1 : 20 < m
    · have HV := Lib.hid (show (1 : Int) = workE m D from by rw [workE, if_pos (.inr h1)])
      have h1b : decide (20 < m) = true := by simp [h1]
      go_enter Try.func51, Try.ntmps51
      go_wp2_with fail
      go_ret
      exact ⟨ret_int HV.out, rfl⟩
    · have h1b : decide (20 < m) = false := by simp only [h1, decide_false]
      have HG := Lib.hid (show ¬ (m < 1 ∨ 20 < m) from by omega)
      by_cases h2 : 60 < n
      · have HV := Lib.hid (show (2 : Int) = workE m D from by rw [workE, if_neg HG.out, if_pos (by have := HN.out; omega)])
        have h2b : (n : Int) > 60 := by omega
        go_enter Try.func51, Try.ntmps51
        go_wp2_with fail
        go_ret
        exact ⟨ret_int HV.out, rfl⟩
      · have h2b : ¬ (n : Int) > 60 := by omega
        go_enter Try.func51, Try.ntmps51
        go_wp2_with fail
        go_loopg [18] n (fun gk x wr => ∃ q : Nat, q + gk = n ∧ x = .int .i64 (q : Int) ∧ Hid (∀ x, x ∈ D.take q → okW x = true) ∧ wr = w)
        case atStart => exact ⟨0, by omega, rfl, Lib.hid (by simp), rfl⟩
        case round =>
          obtain ⟨q, hq, rfl, HQ, rfl⟩ := hrel
          by_cases hqn : q < n
          · obtain ⟨x, hx⟩ : ∃ x, D[q]? = some x := ⟨_, List.getElem?_eq_getElem (by have := HN.out; omega)⟩
            obtain ⟨b, off, rfl, hb, c1⟩ := i64at HD.out hx
            have HX := Lib.hid hx
            clear hx
            have hqn2 : (q : Int) < (n : Int) := by omega
            by_cases hok : okW x = true
            · have HQ2 : Hid (∀ x, x ∈ D.take (q + 1) → okW x = true) := Lib.hid (fun y hy => by
                rw [List.take_add_one, HX.out] at hy
                rcases List.mem_append.1 hy with h | h
                · exact HQ.out y h
                · simp at h; rw [h]; exact hok)
              have hx2 : 0 ≤ x ∧ x ≤ 1000000000 := by simpa [okW] using hok
              have x1 : decide (x < 0) = false := by simp only [decide_eq_false_iff_not]; omega
              have x2 : decide (1000000000 < x) = false := by simp only [decide_eq_false_iff_not]; omega
              clear hok
              go_wp2_with fail
              go_roundg (gk - 1)
              case measure => omega
              case rel => exact ⟨q + 1, by omega, by simp, HQ2, rfl⟩
            · have hok2 : okW x = false := by simpa using hok
              have HV := Lib.hid (workE_bad (m := m) (D := D) HG.out (by have := HN.out; omega) HX.out hok2).symm
              have hx2 : x < 0 ∨ 1000000000 < x := by
                unfold okW at hok2
                simp only [decide_eq_false_iff_not] at hok2
                omega
              clear hok hok2
              by_cases hx0 : x < 0
              · have x1 : decide (x < 0) = true := by simp [hx0]
                go_wp2_with fail
                go_ret
                exact ⟨ret_int HV.out, rfl⟩
              · have x1 : decide (x < 0) = false := by simp only [hx0, decide_false]
                have x2 : decide (1000000000 < x) = true := by simp only [decide_eq_true_eq]; omega
                go_wp2_with fail
                go_ret
                exact ⟨ret_int HV.out, rfl⟩
          · have hqn2 : ¬ (q : Int) < (n : Int) := by omega
            have HV := Lib.hid (workE_ok (m := m) (D := D) HG.out (by have := HN.out; omega) (fun x hx => HQ.out x (by rw [List.take_of_length_le (by have := HN.out; omega)]; exact hx))).symm
            go_wp2_with fail
            go_ret
            exact ⟨ret_int HV.out, rfl⟩
end Go.Proofs.Ytfjoakhcgpckgaa
