/- Contract: does a row of texts hold a text? -/
import Derived.Test.YtkelkpfjkjcmgaaDoorTmplLabA
import Derived.Test.YtkelkpfjkjcmgaaDoorOwn
namespace Go.Proofs.YtkelkpfjkjcmgaaDoor
open Go.ChangeShapes Go.WideShapes Go.ChangeAt Go.RowKit
set_option linter.unusedVariables false
open Tp
set_option maxRecDepth 20000 in
set_option maxHeartbeats 4000000 in
theorem hasText_any (L : List ByteArray) (a : Option Addr) (cap : Nat) (s : ByteArray) (w : World) (hv : Vals w a (L.map Value.string)) (hs : L.length ≤ 9223372036854775807) : Calls Tryd.prog 36 #[.slice a L.length cap, .string s] w fun e w' => e = .returned (.bool (decide (lst s ∈ L.map lst))) ∧ Below w.heap.size w w' := by
  obtain ⟨n, hn⟩ : ∃ n, L.length = n := ⟨_, rfl⟩
  have HN := Lib.hid hn
  rw [hn] at hs ⊢
  have HV := Lib.hid hv
  clear hv
  go_enter Tryd.func36, Tryd.ntmps36
  go_wp2_with fail
  go_loopg [9] n (fun g y wr => ∃ j : Nat, j + g = n ∧ y = .int .i64 (j : Int) ∧ Hid (∀ i x, i < j → L[i]? = some x → lst x ≠ lst s) ∧ Hid (Below w.heap.size w wr))
  case atStart => exact ⟨0, by omega, rfl, Lib.hid (fun i x h => absurd h (by omega)), Lib.hid (Below.refl _ _)⟩
  case round =>
    obtain ⟨j, hj, rfl, HP, HB⟩ := hrel
    by_cases hjn : j < n
    · obtain ⟨x, hx⟩ : ∃ x, L[j]? = some x := ⟨_, List.getElem?_eq_getElem (by rw [HN.out]; exact hjn)⟩
      obtain ⟨b, off, rfl, hb, hc⟩ := HV.out (by rw [List.length_map, HN.out]; omega)
      have hr : wr.cell? ⟨b, off + j, none⟩ = some (.string x) := by
        rw [HB.out.cell (p := ⟨b, off + j, none⟩) hb]
        exact hc j _ (by rw [List.getElem?_map, hx]; rfl)
      have hj1 : (0 : Int) ≤ (j : Int) := by omega
      have hj2 : (j : Int) < (n : Int) := by omega
      have HX := Lib.hid hx
      clear hc hx
      by_cases he : x.toList = s.toList
      · have HR : Hid (decide (lst s ∈ L.map lst) = true) := Lib.hid (by
          rw [decide_eq_true_iff]
          refine List.mem_map.2 ⟨x, List.mem_of_getElem? HX.out, ?_⟩
          rw [ByteArray.toList_eq, ByteArray.toList_eq] at he; exact he)
        have he2 : (x.toList == s.toList) = true := by simpa using he
        clear he
        go_wp2_with fail
        go_ret
        exact ⟨ret_bool HR.out.symm, HB.out⟩
      · have HQ : Hid (∀ i y, i < j + 1 → L[i]? = some y → lst y ≠ lst s) := Lib.hid (fun i y hi hy => by
          by_cases e : i = j
          · subst e
            have := HX.out; rw [hy] at this; cases this
            intro h; apply he; rw [ByteArray.toList_eq, ByteArray.toList_eq]; exact h
          · exact HP.out i y (by omega) hy)
        have he2 : (x.toList == s.toList) = false := by simpa using he
        clear he
        go_wp2_with fail
        go_roundg (n - (j + 1))
        case measure => omega
        case rel => exact ⟨j + 1, by omega, by simp, HQ, HB⟩
    · obtain rfl : j = n := by omega
      have HR : Hid (decide (lst s ∈ L.map lst) = false) := Lib.hid (by
        rw [decide_eq_false_iff_not]
        intro h
        obtain ⟨x, hx, e⟩ := List.mem_map.1 h
        obtain ⟨i, hi, rfl⟩ := List.getElem_of_mem hx
        exact HP.out i L[i] (by rw [← HN.out]; exact hi) (List.getElem?_eq_getElem hi) e)
      go_wp2_with fail
      go_ret
      exact ⟨ret_bool HR.out.symm, HB.out⟩
end Go.Proofs.YtkelkpfjkjcmgaaDoor
