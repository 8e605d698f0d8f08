/- Contracts: where a text lies in a row of texts; does the row hold it. -/
import Derived.Test.YtkelkpfjkjcmgaaDoorBts
namespace Go.Proofs.YtkelkpfjkjcmgaaDoor
open Go.ChangeShapes Go.WideShapes Go.ChangeAt Go.RowKit
set_option linter.unusedVariables false
open Tp
/-- where a text lies -/
def idxI (K : List Bs) (t : Bs) : Int := if t ∈ K then (K.idxOf t : Int) else -1
theorem idxOf_first {K : List Bs} {t : Bs} {j : Nat} (hx : K[j]? = some t) (hp : ∀ (i : Nat) (x : Bs), i < j → K[i]? = some x → x ≠ t) : K.idxOf t = j := by
  induction K generalizing j with
  | nil => simp at hx
  | cons y K ih =>
    cases j with
    | zero => simp at hx; subst hx; simp
    | succ j =>
      have h0 := hp 0 y (by omega) rfl
      rw [List.idxOf_cons, ih (by simpa using hx) (fun i x hi hx => hp (i + 1) x (by omega) (by simpa using hx)), beq_eq_false_iff_ne.2 h0]
      rfl
theorem idxI_hit {K : List Bs} {t : Bs} {j : Nat} (hx : K[j]? = some t) (hp : ∀ (i : Nat) (x : Bs), i < j → K[i]? = some x → x ≠ t) : idxI K t = (j : Int) := by
  unfold idxI
  rw [if_pos (List.mem_of_getElem? hx), idxOf_first hx hp]
theorem idxI_miss {K : List Bs} {t : Bs} (h : ¬ t ∈ K) : idxI K t = -1 := by unfold idxI; rw [if_neg h]
set_option maxRecDepth 20000 in
set_option maxHeartbeats 4000000 in
theorem indexK (K : List Bs) (m : Nat) (t : Bs) (a : Option Addr) (cap : Nat) (w : World) (hm : m = K.length) (hv : Vals w a (txv K)) (hs : m ≤ 9223372036854775807) : Calls Tryd.prog 24 #[.slice a m cap, .string (bts t)] w fun e w' => e = .returned (.int .i64 (idxI K t)) ∧ Below w.heap.size w w' := by
  have HM := Lib.hid hm
  have HV := Lib.hid hv
  obtain ⟨V, hV⟩ : ∃ V, idxI K t = V := ⟨_, rfl⟩
  have HVV := Lib.hid hV
  obtain ⟨s, hs9⟩ : ∃ s, bts t = s := ⟨_, rfl⟩
  have HS := Lib.hid hs9
  rw [hV, hs9]
  clear hv hm hV hs9
  go_enter Tryd.func24, Tryd.ntmps24
  go_wp2_with fail
  go_loopg [5, 8] m (fun g x y wr => ∃ j : Nat, j + g = m ∧ y = .int .i64 (j : Int) ∧ Hid (∀ (i : Nat) (x : Bs), i < j → K[i]? = some x → x ≠ t) ∧ Hid (Below w.heap.size w wr))
  case atStart => exact ⟨0, by omega, rfl, Lib.hid (fun i x h => absurd h (by omega)), Lib.hid (Below.refl _ _)⟩
  case round =>
    obtain ⟨j, hj, rfl, HP, HB⟩ := hrel
    by_cases hjn : j < m
    · obtain ⟨x, hx⟩ : ∃ x, K[j]? = some x := ⟨_, List.getElem?_eq_getElem (by rw [← HM.out]; exact hjn)⟩
      obtain ⟨b, off, rfl, hb, hc⟩ := HV.out (by rw [txv_length, ← HM.out]; omega)
      obtain ⟨y, hy⟩ : ∃ y, bts x = y := ⟨_, rfl⟩
      have hr : wr.cell? ⟨b, off + j, none⟩ = some (.string y) := by
        rw [HB.out.cell (p := ⟨b, off + j, none⟩) hb, ← hy]
        exact hc j _ (txv_at hx)
      have hj1 : (0 : Int) ≤ (j : Int) := by omega
      have hj2 : (j : Int) < (m : Int) := by omega
      have HX := Lib.hid hx
      have HY := Lib.hid hy
      clear hc hx hy
      by_cases he : x = t
      · have HR : Hid (V = (j : Int)) := Lib.hid (by rw [← HVV.out]; exact idxI_hit (he ▸ HX.out) HP.out)
        have he2 : (s.toList == y.toList) = true := by rw [← HS.out, ← HY.out, he]; simp
        clear he
        go_wp2_with fail
        go_ret
        exact ⟨ret_int HR.out.symm, HB.out⟩
      · have HQ : Hid (∀ (i : Nat) (y : Bs), i < j + 1 → K[i]? = some y → y ≠ t) := Lib.hid (fun i y hi hy => by
          by_cases e : i = j
          · subst e
            have := HX.out; rw [hy] at this; cases this
            exact he
          · exact HP.out i y (by omega) hy)
        have he2 : (s.toList == y.toList) = false := by rw [← HS.out, ← HY.out, bts_eq]; simpa using fun h => he h.symm
        clear he
        go_wp2_with fail
        go_roundg (m - (j + 1))
        case measure => omega
        case rel => exact ⟨j + 1, by omega, by simp, HQ, HB⟩
    · obtain rfl : j = m := by omega
      have HR : Hid (V = -1) := Lib.hid (by
        rw [← HVV.out]
        refine idxI_miss (fun h => ?_)
        obtain ⟨i, hi, e⟩ := List.getElem_of_mem h
        exact HP.out i K[i] (by rw [HM.out]; exact hi) (List.getElem?_eq_getElem hi) e)
      go_wp2_with fail
      go_ret
      exact ⟨ret_int HR.out.symm, HB.out⟩
set_option maxRecDepth 20000 in
set_option maxHeartbeats 4000000 in
theorem containsK (K : List Bs) (m : Nat) (t : Bs) (a : Option Addr) (cap : Nat) (w : World) (hm : m = K.length) (hv : Vals w a (txv K)) (hs : m ≤ 9223372036854775807) : Calls Tryd.prog 32 #[.slice a m cap, .string (bts t)] w fun e w' => e = .returned (.bool (decide (t ∈ K))) ∧ Below w.heap.size w w' := by
  have HC := Lib.hid (indexK K m t a cap w hm hv hs)
  obtain ⟨V, hV⟩ : ∃ V, idxI K t = V := ⟨_, rfl⟩
  have HR : Hid (decide (0 ≤ V) = decide (t ∈ K)) := Lib.hid (by
    rw [← hV]
    unfold idxI
    by_cases h : t ∈ K
    · rw [if_pos h]; simp [h]
    · rw [if_neg h]; simp [h])
  rw [hV] at HC
  obtain ⟨s, hs9⟩ : ∃ s, bts t = s := ⟨_, rfl⟩
  rw [hs9] at HC ⊢
  clear hv hm hV hs9
  go_enter Tryd.func32, Tryd.ntmps32
  go_wp2_with fail
  refine Calls.mono HC.out ?_
  rintro e' W ⟨rfl, h1⟩
  go_wp2_with fail
  go_ret
  exact ⟨ret_bool HR.out, h1⟩
end Go.Proofs.YtkelkpfjkjcmgaaDoor
