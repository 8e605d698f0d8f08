/- Contracts: fair shares: Check, upTo, the level. -/
import Derived.Test.YtfjoakhcgpckgaaShareM
import Derived.Test.YtfjoakhcgpckgaaStableIns
import Derived.Test.YtfjoakhcgpckgaaOwn
namespace Go.Proofs.Ytfjoakhcgpckgaa
open Go.ChangeShapes Go.WideShapes Go.ChangeAt Go.RowKit
set_option linter.unusedVariables false
open Sh
/-- the cell of the q-th number -/
theorem i64at {w : World} {a : Option Addr} {D : List Int} (h : Vals w a (ints64 D)) {q : Nat} {x : Int} (hq : D[q]? = some x) : ∃ b off, a = some ⟨b, off, none⟩ ∧ b < w.heap.size ∧ w.cell? ⟨b, off + q, none⟩ = some (.int .i64 x) := by
  have hl := (List.getElem?_eq_some_iff.1 hq).1
  obtain ⟨b, off, e, hb, hv⟩ := h (by unfold ints64; rw [List.length_map]; omega)
  exact ⟨b, off, e, hb, hv q _ (by unfold ints64; rw [List.getElem?_map, hq]; rfl)⟩
theorem shareE_bad {all : Int} {D : List Int} {q : Nat} {x : Int} (h1 : ¬ (all < 0 ∨ m40 < all)) (h2 : D.length ≤ 100) (hq : D[q]? = some x) (hx : okS x = false) : shareE all D = 4 := by
  have : D.all okS = false := by
    cases hD : D.all okS with
    | false => rfl
    | true => rw [List.all_eq_true.1 hD x (List.mem_of_getElem? hq)] at hx; cases hx
  rw [shareE, if_neg h1, if_neg (by omega), this]; rfl
theorem shareE_ok {all : Int} {D : List Int} (h1 : ¬ (all < 0 ∨ m40 < all)) (h2 : D.length ≤ 100) (hx : ∀ x, x ∈ D → okS x = true) : shareE all D = 0 := by
  rw [shareE, if_neg h1, if_neg (by omega), List.all_eq_true.2 hx]; rfl
set_option maxRecDepth 20000 in
set_option maxHeartbeats 1600000 in
theorem sCheck_any (all : Int) (D : List Int) (a : Option Addr) (n cap : Nat) (w : World) (hn : n = D.length) (hmax : n ≤ 9223372036854775807) (hD : Vals w a (ints64 D)) :
    Calls Try.prog 76 #[.int .i64 all, .slice a n cap] w fun e w' => e = .returned (.int .i64 (shareE all D)) ∧ w' = w := by
  have HD := Lib.hid hD
  have HN := Lib.hid hn
  clear hD hn
  by_cases h0 : all < 0
  · have HV := Lib.hid (show (1 : Int) = shareE all D from by rw [shareE, if_pos (.inl h0)])
    have h0b : decide (all < 0) = true := by simp [h0]
    go_enter Try.func76, Try.ntmps76
    go_wp2_with fail
    go_ret
    exact ⟨ret_int HV.out, rfl⟩
  · have h0b : decide (all < 0) = false := by simp only [h0, decide_false]
    by_cases h1 : 1099511627776 < all
    · have HV := Lib.hid (show (1 : Int) = shareE all D from by rw [shareE, if_pos (.inr h1)])
      have h1b : decide (1099511627776 < all) = true := by simp [h1]
      go_enter Try.func76, Try.ntmps76
      go_wp2_with fail
      go_ret
      exact ⟨ret_int HV.out, rfl⟩
    · have h1b : decide (1099511627776 < all) = false := by simp only [h1, decide_false]
      have HG := Lib.hid (show ¬ (all < 0 ∨ m40 < all) from by unfold m40; omega)
      by_cases h2 : 100 < n
      · have HV := Lib.hid (show (2 : Int) = shareE all D from by rw [shareE, if_neg HG.out, if_pos (by have := HN.out; omega)])
        have h2b : (n : Int) > 100 := by omega
        go_enter Try.func76, Try.ntmps76
        go_wp2_with fail
        go_ret
        exact ⟨ret_int HV.out, rfl⟩
      · have h2b : ¬ (n : Int) > 100 := by omega
        go_enter Try.func76, Try.ntmps76
        go_wp2_with fail
        go_loopg [20] n (fun gk x wr => ∃ q : Nat, q + gk = n ∧ x = .int .i64 (q : Int) ∧ Hid (∀ x, x ∈ D.take q → okS x = true) ∧ wr = w)
        case atStart => exact ⟨0, by omega, rfl, Lib.hid (by simp), rfl⟩
        case round =>
          obtain ⟨q, hq, rfl, HQ, rfl⟩ := hrel
          by_cases hqn : q < n
          · obtain ⟨x, hx⟩ : ∃ x, D[q]? = some x := ⟨_, List.getElem?_eq_getElem (by have := HN.out; omega)⟩
            obtain ⟨b, off, rfl, hb, c1⟩ := i64at HD.out hx
            have HX := Lib.hid hx
            clear hx
            have hqn2 : (q : Int) < (n : Int) := by omega
            by_cases hok : okS x = true
            · have HQ2 : Hid (∀ x, x ∈ D.take (q + 1) → okS x = true) := Lib.hid (fun y hy => by
                rw [List.take_add_one, HX.out] at hy
                rcases List.mem_append.1 hy with h | h
                · exact HQ.out y h
                · simp at h; rw [h]; exact hok)
              have hx2 : 0 ≤ x ∧ x ≤ 1099511627776 := by simpa [okS] using hok
              have x1 : decide (x < 0) = false := by simp only [decide_eq_false_iff_not]; omega
              have x2 : decide (1099511627776 < x) = false := by simp only [decide_eq_false_iff_not]; omega
              clear hok
              go_wp2_with fail
              go_roundg (gk - 1)
              case measure => omega
              case rel => exact ⟨q + 1, by omega, by simp, HQ2, rfl⟩
            · have hok2 : okS x = false := by simpa using hok
              have HV := Lib.hid (shareE_bad (all := all) (D := D) HG.out (by have := HN.out; omega) HX.out hok2).symm
              have hx2 : x < 0 ∨ 1099511627776 < x := by
                unfold okS at hok2
                simp only [decide_eq_false_iff_not, m40] at hok2
                omega
              clear hok hok2
              by_cases hx0 : x < 0
              · have x1 : decide (x < 0) = true := by simp [hx0]
                go_wp2_with fail
                go_ret
                exact ⟨ret_int HV.out, rfl⟩
              · have x1 : decide (x < 0) = false := by simp only [hx0, decide_false]
                have x2 : decide (1099511627776 < x) = true := by simp only [decide_eq_true_eq]; omega
                go_wp2_with fail
                go_ret
                exact ⟨ret_int HV.out, rfl⟩
          · have hqn2 : ¬ (q : Int) < (n : Int) := by omega
            have HV := Lib.hid (shareE_ok (all := all) (D := D) HG.out (by have := HN.out; omega) (fun x hx => HQ.out x (by rw [List.take_of_length_le (by have := HN.out; omega)]; exact hx))).symm
            go_wp2_with fail
            go_ret
            exact ⟨ret_int HV.out, rfl⟩
set_option maxRecDepth 20000 in
set_option maxHeartbeats 1600000 in
theorem upTo_any (D : List Int) (v : Int) (a : Option Addr) (n cap : Nat) (w : World) (hn : n = D.length) (h4 : n ≤ 100) (hD : Vals w a (ints64 D)) (hok : ∀ x, x ∈ D → 0 ≤ x ∧ x ≤ m40) (hv : 0 ≤ v) (hv2 : v ≤ 1099511627776) :
    Calls Try.prog 155 #[.slice a n cap, .int .i64 v] w fun e w' => e = .returned (.int .i64 (up D v)) ∧ w' = w := by
  have HD := Lib.hid hD
  have HN := Lib.hid hn
  have HO := Lib.hid hok
  clear hD hn hok
  go_enter Try.func155, Try.ntmps155
  go_wp2_with fail
  go_loopg [5, 10] n (fun gk y x wr => ∃ (q : Nat) (s : Int), q + gk = n ∧ x = .int .i64 (q : Int) ∧ y = .int .i64 s ∧ Hid (s = up (D.take q) v) ∧ wr = w)
  case atStart => exact ⟨0, 0, by omega, rfl, rfl, Lib.hid rfl, rfl⟩
  case round =>
    obtain ⟨q, s, hq, rfl, rfl, HQ, rfl⟩ := hrel
    by_cases hqn : q < n
    · obtain ⟨x, hx⟩ : ∃ x, D[q]? = some x := ⟨_, List.getElem?_eq_getElem (by have := HN.out; omega)⟩
      obtain ⟨b, off, rfl, hb, c1⟩ := i64at HD.out hx
      have hqn2 : (q : Int) < (n : Int) := by omega
      obtain ⟨s2, hs2⟩ : ∃ s2, s + min x v = s2 := ⟨_, rfl⟩
      have HS2 : Hid (s2 = up (D.take (q + 1)) v) := Lib.hid (by rw [up_take hx, ← HQ.out, hs2])
      have hbd := up_bound (take_ok HO.out (q + 1)) hv
      rw [← HS2.out] at hbd
      have hlen : ((D.take (q + 1)).length : Int) ≤ 100 := by rw [List.length_take]; have := HN.out; omega
      have hb2 : 0 ≤ s2 ∧ s2 ≤ 109951162777600 := by simp only [m40] at hbd; omega
      have ws : IntKind.i64.wrap s2 = s2 := IntWalk.i64_in _ (by omega)
      clear hx hbd hlen
      rcases Int.lt_trichotomy v x with hvx | hvx | hvx
      · have e1 : s + v = s2 := by omega
        have e2 : ¬ x < v := by omega
        have e3 : ¬ x ≤ v := by omega
        clear hs2
        go_wp2_with fail
        go_roundg (gk - 1)
        case measure => omega
        case rel => exact ⟨q + 1, s2, by omega, by simp, rfl, HS2, rfl⟩
      · subst hvx
        have e1 : s + v = s2 := by omega
        clear hs2
        go_wp2_with fail
        go_roundg (gk - 1)
        case measure => omega
        case rel => exact ⟨q + 1, s2, by omega, by simp, rfl, HS2, rfl⟩
      · have e1 : s + x = s2 := by omega
        have e2 : ¬ v < x := by omega
        have e3 : ¬ v ≤ x := by omega
        clear hs2
        go_wp2_with fail
        go_roundg (gk - 1)
        case measure => omega
        case rel => exact ⟨q + 1, s2, by omega, by simp, rfl, HS2, rfl⟩
    · have hqn2 : ¬ (q : Int) < (n : Int) := by omega
      have HV := Lib.hid (show s = up D v from by have h := HQ.out; rwa [List.take_of_length_le (by have := HN.out; omega)] at h)
      go_wp2_with fail
      go_ret
      exact ⟨ret_int HV.out, rfl⟩
end Go.Proofs.Ytfjoakhcgpckgaa
