/- Contracts: are the costs right? The program's and the document's. -/
import Derived.Test.YtjmpfkolpgbebaaAssignW
namespace Go.Proofs.Ytjmpfkolpgbebaa
open Go.ChangeShapes Go.WideShapes Go.ChangeAt Go.RowKit
set_option linter.unusedVariables false
open As
def okC (x : Int) : Bool := decide (-1000000000 ≤ x ∧ x ≤ 1000000000)
def costsE (R : List (List Int)) : Int := if 12 < R.length then 2 else if R.all (fun r => decide (r.length = R.length)) then (if R.all (fun r => r.all okC) then 0 else 4) else 1
theorem i64atR {w : World} {a : Option Addr} {D : List Int} (h : Vals w a (ints64 D)) {q : Nat} {x : Int} (hq : D[q]? = some x) : ∃ b off, a = some ⟨b, off, none⟩ ∧ b < w.heap.size ∧ w.cell? ⟨b, off + q, none⟩ = some (.int .i64 x) := by
  obtain ⟨hl, rfl⟩ := List.getElem?_eq_some_iff.1 hq
  obtain ⟨b, off, e, hb, hc⟩ := h (by simp [ints64]; omega)
  exact ⟨b, off, e, hb, hc q _ (by simp [ints64, hl])⟩
theorem Tbl.row {w : World} {a : Option Addr} {R : List (List Int)} (h : Tbl w a R) {j : Nat} {r : List Int} (hj : R[j]? = some r) : ∃ b off ra rc, a = some ⟨b, off, none⟩ ∧ b < w.heap.size ∧ w.cell? ⟨b, off + j, none⟩ = some (.slice ra r.length rc) ∧ r.length ≤ rc ∧ rc ≤ 9223372036854775807 ∧ Vals w ra (ints64 r) := by
  have hl := (List.getElem?_eq_some_iff.1 hj).1
  obtain ⟨b, off, e, hb, h2⟩ := h (by omega)
  obtain ⟨ra, rc, g1, g2, g3, g4⟩ := h2 j r hj
  exact ⟨b, off, ra, rc, e, hb, g1, g2, g3, g4⟩
theorem costsE_good {R : List (List Int)} (h : costsE R = 0) : R.length ≤ 12 ∧ (∀ r, r ∈ R → r.length = R.length) ∧ Fine R.length (cst R) := by
  unfold costsE at h
  split at h
  · cases h
  · rename_i h12
    split at h
    · rename_i hsq
      split at h
      · rename_i hok
        have hs : ∀ r, r ∈ R → r.length = R.length := fun r hr => by simpa using List.all_eq_true.1 hsq r hr
        refine ⟨by omega, hs, fun p k hp hk => ?_⟩
        have hm := List.getElem_mem hp
        have hkl : k < R[p].length := by rw [hs _ hm]; exact hk
        have h2 := List.all_eq_true.1 (List.all_eq_true.1 hok _ hm) _ (List.getElem_mem hkl)
        have e : cst R p k = R[p][k] := by simp [cst, hp, hkl, List.getD_eq_getElem?_getD]
        rw [e]
        simpa [okC] using h2
      · cases h
    · cases h
theorem costsE_len {R : List (List Int)} {j : Nat} {r : List Int} (h : R.length ≤ 12) (hj : R[j]? = some r) (hr : r.length ≠ R.length) : costsE R = 1 := by
  have : R.all (fun r => decide (r.length = R.length)) = false := by
    cases hc : R.all (fun r => decide (r.length = R.length)) with
    | false => rfl
    | true => exact absurd (by simpa using List.all_eq_true.1 hc r (List.mem_of_getElem? hj)) hr
  rw [costsE, if_neg (by omega), this]; rfl
theorem costsE_val {R : List (List Int)} {j q : Nat} {r : List Int} {x : Int} (h : R.length ≤ 12) (hs : ∀ i r, i < R.length → R[i]? = some r → r.length = R.length) (hj : R[j]? = some r) (hq : r[q]? = some x) (hx : okC x = false) : costsE R = 4 := by
  have h1 : R.all (fun r => decide (r.length = R.length)) = true := List.all_eq_true.2 fun r hr => by
    obtain ⟨i, hi, rfl⟩ := List.getElem_of_mem hr
    simpa using hs i _ hi (List.getElem?_eq_getElem hi)
  have h2 : R.all (fun r => r.all okC) = false := by
    cases hc : R.all (fun r => r.all okC) with
    | false => rfl
    | true =>
      have := List.all_eq_true.1 (List.all_eq_true.1 hc r (List.mem_of_getElem? hj)) x (List.mem_of_getElem? hq)
      rw [hx] at this; cases this
  rw [costsE, if_neg (by omega), h1, h2]; rfl
theorem costsE_fin {R : List (List Int)} (h : R.length ≤ 12) (hs : ∀ i r, i < R.length → R[i]? = some r → r.length = R.length) (hv : ∀ i r, i < R.length → R[i]? = some r → r.all okC = true) : costsE R = 0 := by
  have h1 : R.all (fun r => decide (r.length = R.length)) = true := List.all_eq_true.2 fun r hr => by
    obtain ⟨i, hi, rfl⟩ := List.getElem_of_mem hr
    simpa using hs i _ hi (List.getElem?_eq_getElem hi)
  have h2 : R.all (fun r => r.all okC) = true := List.all_eq_true.2 fun r hr => by
    obtain ⟨i, hi, rfl⟩ := List.getElem_of_mem hr
    exact hv i _ hi (List.getElem?_eq_getElem hi)
  rw [costsE, if_neg (by omega), h1, h2]; rfl
theorem all_take {r : List Int} {q : Nat} {x : Int} (h : (r.take q).all okC = true) (hq : r[q]? = some x) (hx : okC x = true) : (r.take (q + 1)).all okC = true := by
  rw [List.take_add_one, hq, List.all_append, h]; simp [hx]
set_option maxRecDepth 20000 in
set_option maxHeartbeats 4000000 in
theorem aCheck_any (R : List (List Int)) (a : Option Addr) (n cap : Nat) (w : World) (hn : n = R.length) (hmax : n ≤ 9223372036854775807) (hT : Tbl w a R) :
    Calls Try.prog 8 #[.slice a n cap] w fun e w' => e = .returned (.int .i64 (costsE R)) ∧ Below w.heap.size w w' := by
  have HN := Lib.hid hn
  have HT := Lib.hid hT
  clear hn hT
  by_cases h12 : 12 < n
  · have HV := Lib.hid (show (2 : Int) = costsE R from by rw [costsE, if_pos (by have := HN.out; omega)])
    have h12' : (n : Int) > 12 := by omega
    go_enter Try.func8, Try.ntmps8
    go_wp2_with fail
    go_ret
    exact ⟨ret_int HV.out, Below.refl _ _⟩
  have h12' : n ≤ 12 := by omega
  have h12b : ¬ (n : Int) > 12 := by omega
  clear h12
  go_enter Try.func8, Try.ntmps8
  go_wp2_with fail
  go_loopg [14] n (fun g y wr => ∃ j : Nat, j + g = n ∧ y = .int .i64 (j : Int) ∧ Hid (∀ i r, i < j → R[i]? = some r → r.length = R.length) ∧ Hid (Below w.heap.size w wr))
  case atStart => exact ⟨0, by omega, rfl, Lib.hid (fun i r h => absurd h (by omega)), Lib.hid (Below.refl _ _)⟩
  case round =>
    obtain ⟨j, hj, rfl, HS, HB⟩ := hrel
    by_cases hjn : j < n
    · obtain ⟨r, hr⟩ : ∃ r, R[j]? = some r := ⟨_, List.getElem?_eq_getElem (by have := HN.out; omega)⟩
      obtain ⟨b, off, ra, rc, rfl, hb, c1, hrl, hrc, _⟩ := (HT.out.below HB.out (Nat.le_refl _)).row hr
      have HR := Lib.hid hr
      obtain ⟨m, hm⟩ : ∃ m, r.length = m := ⟨_, rfl⟩
      rw [hm] at c1 hrl
      have HM := Lib.hid hm
      have hj1 : (0 : Int) ≤ (j : Int) := by omega
      have hj2 : (j : Int) < (n : Int) := by omega
      clear hr hm
      by_cases hmn : m = n
      · have hmb : ((m : Int) != (n : Int)) = false := by simp; omega
        have HQ : Hid (∀ i r, i < j + 1 → R[i]? = some r → r.length = R.length) := Lib.hid (fun i r' hi hr' => by
          by_cases e : i = j
          · subst e; rw [HR.out] at hr'; cases hr'; rw [HM.out, hmn, HN.out]
          · exact HS.out i r' (by omega) hr')
        go_wp2_with fail
        go_roundg (n - (j + 1))
        case measure => omega
        case rel => exact ⟨j + 1, by omega, by simp, HQ, HB⟩
      · have hmb : ((m : Int) != (n : Int)) = true := by simp; omega
        have HV := Lib.hid (costsE_len (by have := HN.out; omega) HR.out (by rw [HM.out, ← HN.out]; exact hmn)).symm
        go_wp2_with fail
        go_ret
        exact ⟨ret_int HV.out, HB.out⟩
    · obtain rfl : j = n := by omega
      have HS2 : Hid (∀ i r, i < R.length → R[i]? = some r → r.length = R.length) := Lib.hid (by rw [HN.out] at HS; exact HS.out)
      clear HS
      go_wp2_with fail
      go_loopg [26] j (fun g y wx => ∃ k : Nat, k + g = j ∧ y = .int .i64 (k : Int) ∧ Hid (∀ i r, i < k → R[i]? = some r → r.all okC = true) ∧ Hid (Below w.heap.size w wx))
      case atStart => exact ⟨0, by omega, rfl, Lib.hid (fun i r h => absurd h (by omega)), HB⟩
      case round =>
        clear HB
        obtain ⟨k, hk, rfl, HA, HB⟩ := hrel
        by_cases hkn : k < j
        · obtain ⟨r, hr⟩ : ∃ r, R[k]? = some r := ⟨_, List.getElem?_eq_getElem (by have := HN.out; omega)⟩
          obtain ⟨b, off, ra, rc, rfl, hb, c1, hrl, hrc, hv⟩ := (HT.out.below HB.out (Nat.le_refl _)).row hr
          have HR := Lib.hid hr
          obtain ⟨m, hm⟩ : ∃ m, r.length = m := ⟨_, rfl⟩
          rw [hm] at c1 hrl
          have HM := Lib.hid hm
          have HV := Lib.hid hv
          have hj1 : (0 : Int) ≤ (k : Int) := by omega
          have hj2 : (k : Int) < (j : Int) := by omega
          clear hr hm hv
          obtain ⟨W0, hW0⟩ : ∃ W, W = wr := ⟨_, rfl⟩
          rw [← hW0] at HV HB hb c1 ⊢
          clear hW0
          go_wp2_with fail
          obtain ⟨gq', rfl⟩ : ∃ q, q = gk := ⟨_, rfl⟩
          go_loopg [32] m (fun g y wx => ∃ q : Nat, q + g = m ∧ y = .int .i64 (q : Int) ∧ Hid ((r.take q).all okC = true) ∧ Hid (Below W0.heap.size W0 wx))
          case atStart => exact ⟨0, by omega, rfl, Lib.hid (by simp), Lib.hid (Below.refl _ _)⟩
          case round =>
            obtain ⟨q, hq, rfl, HQ, HB2⟩ := hrel
            by_cases hqm : q < m
            · obtain ⟨x, hx⟩ : ∃ x, r[q]? = some x := ⟨_, List.getElem?_eq_getElem (by have := HM.out; omega)⟩
              obtain ⟨rb, ro, rfl, l1, c2⟩ := i64atR (HV.out.below HB2.out (Nat.le_refl _)) hx
              have hq1 : (0 : Int) ≤ (q : Int) := by omega
              have hq2 : (q : Int) < (m : Int) := by omega
              cases hok : okC x with
              | true =>
                have HN2 := Lib.hid (all_take HQ.out hx hok)
                obtain ⟨o1, o2⟩ : -1000000000 ≤ x ∧ x ≤ 1000000000 := by simpa [okC] using hok
                clear hx hok
                go_wp2_with fail
                go_roundg (m - (q + 1))
                case measure => omega
                case rel => exact ⟨q + 1, by omega, by simp, HN2, HB2⟩
              | false =>
                have HV4 := Lib.hid (costsE_val (by have := HN.out; omega) HS2.out HR.out hx hok).symm
                have ho : ¬ (-1000000000 ≤ x ∧ x ≤ 1000000000) := by simpa [okC] using hok
                have hcase : x < -1000000000 ∨ (-1000000000 ≤ x ∧ 1000000000 < x) := by omega
                clear hx hok ho
                rcases hcase with o1 | ⟨o1, o2⟩
                all_goals
                  go_wp2_with fail
                  go_ret
                  exact ⟨ret_int HV4.out, HB.out.trans (HB2.out.mono HB.out.size)⟩
            · obtain rfl : q = m := by omega
              have HA2 : Hid (∀ i r, i < k + 1 → R[i]? = some r → r.all okC = true) := Lib.hid (fun i r' hi hr' => by
                by_cases e : i = k
                · subst e; rw [HR.out] at hr'; cases hr'
                  have := HQ.out
                  rwa [← HM.out, List.take_length] at this
                · exact HA.out i r' (by omega) hr')
              have HB3 := Lib.hid (HB.out.trans (HB2.out.mono HB.out.size))
              go_wp2_with fail
              go_roundg (j - (k + 1))
              case measure => omega
              case rel => exact ⟨k + 1, by omega, by simp, HA2, HB3⟩
        · obtain rfl : k = j := by omega
          have HV := Lib.hid (costsE_fin (by have := HN.out; omega) HS2.out (by rw [HN.out] at HA; exact HA.out)).symm
          go_wp2_with fail
          go_ret
          exact ⟨ret_int HV.out, HB.out⟩
set_option maxRecDepth 20000 in
set_option maxHeartbeats 4000000 in
theorem rCosts_any (R : List (List Int)) (a : Option Addr) (n cap : Nat) (w : World) (hn : n = R.length) (hmax : n ≤ 9223372036854775807) (hT : Tbl w a R) :
    Calls Try.prog 7 #[.slice a n cap] w fun e w' => e = .returned (.int .i64 (costsE R)) ∧ Below w.heap.size w w' := by
  have HN := Lib.hid hn
  have HT := Lib.hid hT
  clear hn hT
  by_cases h12 : 12 < n
  · have HV := Lib.hid (show (2 : Int) = costsE R from by rw [costsE, if_pos (by have := HN.out; omega)])
    have h12' : (n : Int) > 12 := by omega
    go_enter Try.func7, Try.ntmps7
    go_wp2_with fail
    go_ret
    exact ⟨ret_int HV.out, Below.refl _ _⟩
  have h12' : n ≤ 12 := by omega
  have h12b : ¬ (n : Int) > 12 := by omega
  clear h12
  go_enter Try.func7, Try.ntmps7
  go_wp2_with fail
  go_loopg [14] n (fun g y wr => ∃ j : Nat, j + g = n ∧ y = .int .i64 (j : Int) ∧ Hid (∀ i r, i < j → R[i]? = some r → r.length = R.length) ∧ Hid (Below w.heap.size w wr))
  case atStart => exact ⟨0, by omega, rfl, Lib.hid (fun i r h => absurd h (by omega)), Lib.hid (Below.refl _ _)⟩
  case round =>
    obtain ⟨j, hj, rfl, HS, HB⟩ := hrel
    by_cases hjn : j < n
    · obtain ⟨r, hr⟩ : ∃ r, R[j]? = some r := ⟨_, List.getElem?_eq_getElem (by have := HN.out; omega)⟩
      obtain ⟨b, off, ra, rc, rfl, hb, c1, hrl, hrc, _⟩ := (HT.out.below HB.out (Nat.le_refl _)).row hr
      have HR := Lib.hid hr
      obtain ⟨m, hm⟩ : ∃ m, r.length = m := ⟨_, rfl⟩
      rw [hm] at c1 hrl
      have HM := Lib.hid hm
      have hj1 : (0 : Int) ≤ (j : Int) := by omega
      have hj2 : (j : Int) < (n : Int) := by omega
      clear hr hm
      by_cases hmn : m = n
      · have hmb : ((m : Int) != (n : Int)) = false := by simp; omega
        have HQ : Hid (∀ i r, i < j + 1 → R[i]? = some r → r.length = R.length) := Lib.hid (fun i r' hi hr' => by
          by_cases e : i = j
          · subst e; rw [HR.out] at hr'; cases hr'; rw [HM.out, hmn, HN.out]
          · exact HS.out i r' (by omega) hr')
        go_wp2_with fail
        go_roundg (n - (j + 1))
        case measure => omega
        case rel => exact ⟨j + 1, by omega, by simp, HQ, HB⟩
      · have hmb : ((m : Int) != (n : Int)) = true := by simp; omega
        have HV := Lib.hid (costsE_len (by have := HN.out; omega) HR.out (by rw [HM.out, ← HN.out]; exact hmn)).symm
        go_wp2_with fail
        go_ret
        exact ⟨ret_int HV.out, HB.out⟩
    · obtain rfl : j = n := by omega
      have HS2 : Hid (∀ i r, i < R.length → R[i]? = some r → r.length = R.length) := Lib.hid (by rw [HN.out] at HS; exact HS.out)
      clear HS
      go_wp2_with fail
      go_loopg [26] j (fun g y wx => ∃ k : Nat, k + g = j ∧ y = .int .i64 (k : Int) ∧ Hid (∀ i r, i < k → R[i]? = some r → r.all okC = true) ∧ Hid (Below w.heap.size w wx))
      case atStart => exact ⟨0, by omega, rfl, Lib.hid (fun i r h => absurd h (by omega)), HB⟩
      case round =>
        clear HB
        obtain ⟨k, hk, rfl, HA, HB⟩ := hrel
        by_cases hkn : k < j
        · obtain ⟨r, hr⟩ : ∃ r, R[k]? = some r := ⟨_, List.getElem?_eq_getElem (by have := HN.out; omega)⟩
          obtain ⟨b, off, ra, rc, rfl, hb, c1, hrl, hrc, hv⟩ := (HT.out.below HB.out (Nat.le_refl _)).row hr
          have HR := Lib.hid hr
          obtain ⟨m, hm⟩ : ∃ m, r.length = m := ⟨_, rfl⟩
          rw [hm] at c1 hrl
          have HM := Lib.hid hm
          have HV := Lib.hid hv
          have hj1 : (0 : Int) ≤ (k : Int) := by omega
          have hj2 : (k : Int) < (j : Int) := by omega
          clear hr hm hv
          obtain ⟨W0, hW0⟩ : ∃ W, W = wr := ⟨_, rfl⟩
          rw [← hW0] at HV HB hb c1 ⊢
          clear hW0
          go_wp2_with fail
          obtain ⟨gq', rfl⟩ : ∃ q, q = gk := ⟨_, rfl⟩
          go_loopg [32] m (fun g y wx => ∃ q : Nat, q + g = m ∧ y = .int .i64 (q : Int) ∧ Hid ((r.take q).all okC = true) ∧ Hid (Below W0.heap.size W0 wx))
          case atStart => exact ⟨0, by omega, rfl, Lib.hid (by simp), Lib.hid (Below.refl _ _)⟩
          case round =>
            obtain ⟨q, hq, rfl, HQ, HB2⟩ := hrel
            by_cases hqm : q < m
            · obtain ⟨x, hx⟩ : ∃ x, r[q]? = some x := ⟨_, List.getElem?_eq_getElem (by have := HM.out; omega)⟩
              obtain ⟨rb, ro, rfl, l1, c2⟩ := i64atR (HV.out.below HB2.out (Nat.le_refl _)) hx
              have hq1 : (0 : Int) ≤ (q : Int) := by omega
              have hq2 : (q : Int) < (m : Int) := by omega
              cases hok : okC x with
              | true =>
                have HN2 := Lib.hid (all_take HQ.out hx hok)
                obtain ⟨o1, o2⟩ : -1000000000 ≤ x ∧ x ≤ 1000000000 := by simpa [okC] using hok
                clear hx hok
                go_wp2_with fail
                go_roundg (m - (q + 1))
                case measure => omega
                case rel => exact ⟨q + 1, by omega, by simp, HN2, HB2⟩
              | false =>
                have HV4 := Lib.hid (costsE_val (by have := HN.out; omega) HS2.out HR.out hx hok).symm
                have ho : ¬ (-1000000000 ≤ x ∧ x ≤ 1000000000) := by simpa [okC] using hok
                have hcase : x < -1000000000 ∨ (-1000000000 ≤ x ∧ 1000000000 < x) := by omega
                clear hx hok ho
                rcases hcase with o1 | ⟨o1, o2⟩
                all_goals
                  go_wp2_with fail
                  go_ret
                  exact ⟨ret_int HV4.out, HB.out.trans (HB2.out.mono HB.out.size)⟩
            · obtain rfl : q = m := by omega
              have HA2 : Hid (∀ i r, i < k + 1 → R[i]? = some r → r.all okC = true) := Lib.hid (fun i r' hi hr' => by
                by_cases e : i = k
                · subst e; rw [HR.out] at hr'; cases hr'
                  have := HQ.out
                  rwa [← HM.out, List.take_length] at this
                · exact HA.out i r' (by omega) hr')
              have HB3 := Lib.hid (HB.out.trans (HB2.out.mono HB.out.size))
              go_wp2_with fail
              go_roundg (j - (k + 1))
              case measure => omega
              case rel => exact ⟨k + 1, by omega, by simp, HA2, HB3⟩
        · obtain rfl : k = j := by omega
          have HV := Lib.hid (costsE_fin (by have := HN.out; omega) HS2.out (by rw [HN.out] at HA; exact HA.out)).symm
          go_wp2_with fail
          go_ret
          exact ⟨ret_int HV.out, HB.out⟩
end Go.Proofs.Ytjmpfkolpgbebaa
