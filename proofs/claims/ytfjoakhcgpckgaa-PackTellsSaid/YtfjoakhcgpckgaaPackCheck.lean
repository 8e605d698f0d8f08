/- Contracts: things for boxes: what is asked of them. -/
import Derived.Test.YtfjoakhcgpckgaaShare
import Derived.Test.YtfjoakhcgpckgaaPackF
namespace Go.Proofs.Ytfjoakhcgpckgaa
open Go.ChangeShapes Go.WideShapes Go.ChangeAt Go.RowKit
set_option linter.unusedVariables false
open Wk
def okP (size x : Int) : Bool := decide (1 ≤ x ∧ x ≤ size)
def packE (D : List Int) (size : Int) : Int := if 100 < D.length then 2 else if size < 1 ∨ 1099511627776 < size then 1 else if D.all (okP size) then 0 else 4
theorem packE_good {D : List Int} {size : Int} (h : packE D size = 0) : D.length ≤ 100 ∧ 1 ≤ size ∧ size ≤ 1099511627776 ∧ ∀ x, x ∈ D → 1 ≤ x ∧ x ≤ size := by
  unfold packE at h
  split at h
  · cases h
  · split at h
    · cases h
    · split at h
      · rename_i h3
        exact ⟨by omega, by omega, by omega, fun x hx => by simpa [okP] using List.all_eq_true.1 h3 x hx⟩
      · cases h
theorem packE_bad {D : List Int} {size : Int} {q : Nat} {x : Int} (h1 : ¬ (size < 1 ∨ 1099511627776 < size)) (h2 : D.length ≤ 100) (hq : D[q]? = some x) (hx : okP size x = false) : packE D size = 4 := by
  have : D.all (okP size) = false := by
    cases hD : D.all (okP size) with
    | false => rfl
    | true => rw [List.all_eq_true.1 hD x (List.mem_of_getElem? hq)] at hx; cases hx
  rw [packE, if_neg (by omega), if_neg h1, this]; rfl
theorem packE_ok {D : List Int} {size : Int} (h1 : ¬ (size < 1 ∨ 1099511627776 < size)) (h2 : D.length ≤ 100) (hx : ∀ x, x ∈ D → okP size x = true) : packE D size = 0 := by
  rw [packE, if_neg (by omega), if_neg h1, List.all_eq_true.2 hx]; rfl
set_option maxRecDepth 20000 in
set_option maxHeartbeats 1600000 in
theorem pCheck_any (D : List Int) (size : Int) (a : Option Addr) (n cap : Nat) (w : World) (hn : n = D.length) (hmax : n ≤ 9223372036854775807) (hD : Vals w a (ints64 D)) :
    Calls Try.prog 41 #[.slice a n cap, .int .i64 size] w fun e w' => e = .returned (.int .i64 (packE D size)) ∧ w' = w := by
  have HD := Lib.hid hD
  have HN := Lib.hid hn
  clear hD hn
  by_cases h2 : 100 < n
  · have HV := Lib.hid (show (2 : Int) = packE D size from by rw [packE, if_pos (by have := HN.out; omega)])
    have h2b : (n : Int) > 100 := by omega
    go_enter Try.func41, Try.ntmps41
    go_wp2_with fail
    go_ret
    exact ⟨ret_int HV.out, rfl⟩
  · have h2b : ¬ (n : Int) > 100 := by omega
    by_cases h0 : size < 1
    · have HV := Lib.hid (show (1 : Int) = packE D size from by rw [packE, if_neg (by have := HN.out; omega), if_pos (.inl h0)])
      have h0b : decide (size < 1) = true := by simp [h0]
      go_enter Try.func41, Try.ntmps41
      go_wp2_with fail
      go_ret
      exact ⟨ret_int HV.out, rfl⟩
    · have h0b : decide (size < 1) = false := by simp only [h0, decide_false]
      by_cases h1 : 1099511627776 < size
      · have HV := Lib.hid (show (1 : Int) = packE D size from by rw [packE, if_neg (by have := HN.out; omega), if_pos (.inr h1)])
        have h1b : decide (1099511627776 < size) = true := by simp [h1]
        go_enter Try.func41, Try.ntmps41
        go_wp2_with fail
        go_ret
        exact ⟨ret_int HV.out, rfl⟩
      · have h1b : decide (1099511627776 < size) = false := by simp only [h1, decide_false]
        have HG := Lib.hid (show ¬ (size < 1 ∨ 1099511627776 < size) from by omega)
        go_enter Try.func41, Try.ntmps41
        go_wp2_with fail
        go_loopg [20] n (fun gk x wr => ∃ q : Nat, q + gk = n ∧ x = .int .i64 (q : Int) ∧ Hid (∀ x, x ∈ D.take q → okP size x = true) ∧ wr = w)
        case atStart => exact ⟨0, by omega, rfl, Lib.hid (by simp), rfl⟩
        case round =>
          obtain ⟨q, hq, rfl, HQ, rfl⟩ := hrel
          by_cases hqn : q < n
          · obtain ⟨x, hx⟩ : ∃ x, D[q]? = some x := ⟨_, List.getElem?_eq_getElem (by have := HN.out; omega)⟩
            obtain ⟨b, off, rfl, hb, c1⟩ := i64at HD.out hx
            have HX := Lib.hid hx
            clear hx
            have hqn2 : (q : Int) < (n : Int) := by omega
            by_cases hok : okP size x = true
            · have HQ2 : Hid (∀ x, x ∈ D.take (q + 1) → okP size x = true) := Lib.hid (fun y hy => by
                rw [List.take_add_one, HX.out] at hy
                rcases List.mem_append.1 hy with h | h
                · exact HQ.out y h
                · simp at h; rw [h]; exact hok)
              have hx2 : 1 ≤ x ∧ x ≤ size := by simpa [okP] using hok
              have x1 : decide (x < 1) = false := by simp only [decide_eq_false_iff_not]; omega
              have x2 : decide (size < x) = false := by simp only [decide_eq_false_iff_not]; omega
              clear hok
              go_wp2_with fail
              go_roundg (gk - 1)
              case measure => omega
              case rel => exact ⟨q + 1, by omega, by simp, HQ2, rfl⟩
            · have hok2 : okP size x = false := by simpa using hok
              have HV := Lib.hid (packE_bad (D := D) HG.out (by have := HN.out; omega) HX.out hok2).symm
              have hx2 : x < 1 ∨ size < x := by
                unfold okP at hok2
                simp only [decide_eq_false_iff_not] at hok2
                omega
              clear hok hok2
              by_cases hx0 : x < 1
              · have x1 : decide (x < 1) = true := by simp [hx0]
                go_wp2_with fail
                go_ret
                exact ⟨ret_int HV.out, rfl⟩
              · have x1 : decide (x < 1) = false := by simp only [hx0, decide_false]
                have x2 : decide (size < x) = true := by simp only [decide_eq_true_eq]; omega
                go_wp2_with fail
                go_ret
                exact ⟨ret_int HV.out, rfl⟩
          · have hqn2 : ¬ (q : Int) < (n : Int) := by omega
            have HV := Lib.hid (packE_ok (D := D) HG.out (by have := HN.out; omega) (fun x hx => HQ.out x (by rw [List.take_of_length_le (by have := HN.out; omega)]; exact hx))).symm
            go_wp2_with fail
            go_ret
            exact ⟨ret_int HV.out, rfl⟩
set_option maxRecDepth 20000 in
set_option maxHeartbeats 1600000 in
theorem pFault_any (D : List Int) (size : Int) (a : Option Addr) (n cap : Nat) (w : World) (hn : n = D.length) (hmax : n ≤ 9223372036854775807) (hD : Vals w a (ints64 D)) :
    Calls Try.prog 40 #[.slice a n cap, .int .i64 size] w fun e w' => e = .returned (.int .i64 (packE D size)) ∧ w' = w := by
  have HD := Lib.hid hD
  have HN := Lib.hid hn
  clear hD hn
  by_cases h2 : 100 < n
  · have HV := Lib.hid (show (2 : Int) = packE D size from by rw [packE, if_pos (by have := HN.out; omega)])
    have h2b : (n : Int) > 100 := by omega
    go_enter Try.func40, Try.ntmps40
    go_wp2_with fail
    go_ret
    exact ⟨ret_int HV.out, rfl⟩
  · have h2b : ¬ (n : Int) > 100 := by omega
    by_cases h0 : size < 1
    · have HV := Lib.hid (show (1 : Int) = packE D size from by rw [packE, if_neg (by have := HN.out; omega), if_pos (.inl h0)])
      have h0b : decide (size < 1) = true := by simp [h0]
      go_enter Try.func40, Try.ntmps40
      go_wp2_with fail
      go_ret
      exact ⟨ret_int HV.out, rfl⟩
    · have h0b : decide (size < 1) = false := by simp only [h0, decide_false]
      by_cases h1 : 1099511627776 < size
      · have HV := Lib.hid (show (1 : Int) = packE D size from by rw [packE, if_neg (by have := HN.out; omega), if_pos (.inr h1)])
        have h1b : decide (1099511627776 < size) = true := by simp [h1]
        go_enter Try.func40, Try.ntmps40
        go_wp2_with fail
        go_ret
        exact ⟨ret_int HV.out, rfl⟩
      · have h1b : decide (1099511627776 < size) = false := by simp only [h1, decide_false]
        have HG := Lib.hid (show ¬ (size < 1 ∨ 1099511627776 < size) from by omega)
        go_enter Try.func40, Try.ntmps40
        go_wp2_with fail
        go_loopg [18] n (fun gk x wr => ∃ q : Nat, q + gk = n ∧ x = .int .i64 (q : Int) ∧ Hid (∀ x, x ∈ D.take q → okP size x = true) ∧ wr = w)
        case atStart => exact ⟨0, by omega, rfl, Lib.hid (by simp), rfl⟩
        case round =>
          obtain ⟨q, hq, rfl, HQ, rfl⟩ := hrel
          by_cases hqn : q < n
          · obtain ⟨x, hx⟩ : ∃ x, D[q]? = some x := ⟨_, List.getElem?_eq_getElem (by have := HN.out; omega)⟩
            obtain ⟨b, off, rfl, hb, c1⟩ := i64at HD.out hx
            have HX := Lib.hid hx
            clear hx
            have hqn2 : (q : Int) < (n : Int) := by omega
            by_cases hok : okP size x = true
            · have HQ2 : Hid (∀ x, x ∈ D.take (q + 1) → okP size x = true) := Lib.hid (fun y hy => by
                rw [List.take_add_one, HX.out] at hy
                rcases List.mem_append.1 hy with h | h
                · exact HQ.out y h
                · simp at h; rw [h]; exact hok)
              have hx2 : 1 ≤ x ∧ x ≤ size := by simpa [okP] using hok
              have x1 : decide (x < 1) = false := by simp only [decide_eq_false_iff_not]; omega
              have x2 : decide (size < x) = false := by simp only [decide_eq_false_iff_not]; omega
              clear hok
              go_wp2_with fail
              go_roundg (gk - 1)
              case measure => omega
              case rel => exact ⟨q + 1, by omega, by simp, HQ2, rfl⟩
            · have hok2 : okP size x = false := by simpa using hok
              have HV := Lib.hid (packE_bad (D := D) HG.out (by have := HN.out; omega) HX.out hok2).symm
              have hx2 : x < 1 ∨ size < x := by
                unfold okP at hok2
                simp only [decide_eq_false_iff_not] at hok2
                omega
              clear hok hok2
              by_cases hx0 : x < 1
              · have x1 : decide (x < 1) = true := by simp [hx0]
                go_wp2_with fail
                go_ret
                exact ⟨ret_int HV.out, rfl⟩
              · have x1 : decide (x < 1) = false := by simp only [hx0, decide_false]
                have x2 : decide (size < x) = true := by simp only [decide_eq_true_eq]; omega
                go_wp2_with fail
                go_ret
                exact ⟨ret_int HV.out, rfl⟩
          · have hqn2 : ¬ (q : Int) < (n : Int) := by omega
            have HV := Lib.hid (packE_ok (D := D) HG.out (by have := HN.out; omega) (fun x hx => HQ.out x (by rw [List.take_of_length_le (by have := HN.out; omega)]; exact hx))).symm
            go_wp2_with fail
            go_ret
            exact ⟨ret_int HV.out, rfl⟩
end Go.Proofs.Ytfjoakhcgpckgaa
