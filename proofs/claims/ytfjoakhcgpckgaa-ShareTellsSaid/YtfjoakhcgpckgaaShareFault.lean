/- Contract: what is told of a share's fault by the document. -/
import Derived.Test.YtfjoakhcgpckgaaShare
namespace Go.Proofs.Ytfjoakhcgpckgaa
open Go.ChangeShapes Go.WideShapes Go.ChangeAt Go.RowKit
set_option linter.unusedVariables false
open Sh
set_option maxRecDepth 20000 in
set_option maxHeartbeats 1600000 in
theorem sFault_any (all : Int) (D : List Int) (a : Option Addr) (n cap : Nat) (w : World) (hn : n = D.length) (hmax : n ≤ 9223372036854775807) (hD : Vals w a (ints64 D)) :
    Calls Try.prog 75 #[.int .i64 all, .slice a n cap] w fun e w' => e = .returned (.int .i64 (shareE all D)) ∧ w' = w := by
  have HD := Lib.hid hD
  have HN := Lib.hid hn
  clear hD hn
  by_cases h0 : all < 0
  · have HV := Lib.hid (show (1 : Int) = shareE all D from by rw [shareE, if_pos (.inl h0)])
    have h0b : decide (all < 0) = true := by simp [h0]
    go_enter Try.func75, Try.ntmps75
    go_wp2_with fail
    go_ret
    exact ⟨ret_int HV.out, rfl⟩
  · have h0b : decide (all < 0) = false := by simp only [h0, decide_false]
    by_cases h1 : 1099511627776 < all
    · have HV := Lib.hid (show (1 : Int) = shareE all D from by rw [shareE, if_pos (.inr h1)])
      have h1b : decide (1099511627776 < all) = true := by simp [h1]
      go_enter Try.func75, Try.ntmps75
      go_wp2_with fail
      go_ret
      exact ⟨ret_int HV.out, rfl⟩
    · have h1b : decide (1099511627776 < all) = false := by simp only [h1, decide_false]
      have HG := Lib.hid (show ¬ (all < 0 ∨ m40 < all) from by unfold m40; omega)
      by_cases h2 : 100 < n
      · have HV := Lib.hid (show (2 : Int) = shareE all D from by rw [shareE, if_neg HG.out, if_pos (by have := HN.out; omega)])
        have h2b : (n : Int) > 100 := by omega
        go_enter Try.func75, Try.ntmps75
        go_wp2_with fail
        go_ret
        exact ⟨ret_int HV.out, rfl⟩
      · have h2b : ¬ (n : Int) > 100 := by omega
        go_enter Try.func75, Try.ntmps75
        go_wp2_with fail
        go_loopg [18] n (fun gk x wr => ∃ q : Nat, q + gk = n ∧ x = .int .i64 (q : Int) ∧ Hid (∀ x, x ∈ D.take q → okS x = true) ∧ wr = w)
        case atStart => exact ⟨0, by omega, rfl, Lib.hid (by simp), rfl⟩
        case round =>
          obtain ⟨q, hq, rfl, HQ, rfl⟩ := hrel
          by_cases hqn : q < n
          · obtain ⟨x, hx⟩ : ∃ x, D[q]? = some x := ⟨_, List.getElem?_eq_getElem (by have := HN.out; omega)⟩
            obtain ⟨b, off, rfl, hb, c1⟩ := i64at HD.out hx
            have HX := Lib.hid hx
            clear hx
            have hqn2 : (q : Int) < (n : Int) := by omega
            by_cases hok : okS x = true
            · have HQ2 : Hid (∀ x, x ∈ D.take (q + 1) → okS x = true) := Lib.hid (fun y hy => by
                rw [List.take_add_one, HX.out] at hy
                rcases List.mem_append.1 hy with h | h
                · exact HQ.out y h
                · simp at h; rw [h]; exact hok)
              have hx2 : 0 ≤ x ∧ x ≤ 1099511627776 := by simpa [okS] using hok
              have x1 : decide (x < 0) = false := by simp only [decide_eq_false_iff_not]; omega
              have x2 : decide (1099511627776 < x) = false := by simp only [decide_eq_false_iff_not]; omega
              clear hok
              go_wp2_with fail
              go_roundg (gk - 1)
              case measure => omega
              case rel => exact ⟨q + 1, by omega, by simp, HQ2, rfl⟩
            · have hok2 : okS x = false := by simpa using hok
              have HV := Lib.hid (shareE_bad (all := all) (D := D) HG.out (by have := HN.out; omega) HX.out hok2).symm
              have hx2 : x < 0 ∨ 1099511627776 < x := by
                unfold okS at hok2
                simp only [decide_eq_false_iff_not, m40] at hok2
                omega
              clear hok hok2
              by_cases hx0 : x < 0
              · have x1 : decide (x < 0) = true := by simp [hx0]
                go_wp2_with fail
                go_ret
                exact ⟨ret_int HV.out, rfl⟩
              · have x1 : decide (x < 0) = false := by simp only [hx0, decide_false]
                have x2 : decide (1099511627776 < x) = true := by simp only [decide_eq_true_eq]; omega
                go_wp2_with fail
                go_ret
                exact ⟨ret_int HV.out, rfl⟩
          · have hqn2 : ¬ (q : Int) < (n : Int) := by omega
            have HV := Lib.hid (shareE_ok (all := all) (D := D) HG.out (by have := HN.out; omega) (fun x hx => HQ.out x (by rw [List.take_of_length_le (by have := HN.out; omega)]; exact hx))).symm
            go_wp2_with fail
            go_ret
            exact ⟨ret_int HV.out, rfl⟩
end Go.Proofs.Ytfjoakhcgpckgaa
