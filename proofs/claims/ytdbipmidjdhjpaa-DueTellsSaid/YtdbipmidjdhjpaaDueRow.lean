/- Contract: is a row of work a good one? The document's. -/
import Derived.Test.YtdbipmidjdhjpaaDueTight
namespace Go.Proofs.Ytdbipmidjdhjpaa
open Go.ChangeShapes Go.WideShapes Go.ChangeAt Go.RowKit
set_option linter.unusedVariables false
/-- numbers, as they lie in a row -/
def IntsAt (w : World) (b off : Nat) (R : List Int) : Prop := ∀ i v, R[i]? = some v → w.cell? ⟨b, off + i, none⟩ = some (.int .i64 v)
def Ints (w : World) (a : Option Addr) (R : List Int) : Prop := 0 < R.length → ∃ b off, a = some ⟨b, off, none⟩ ∧ b < w.heap.size ∧ IntsAt w b off R
theorem IntsAt.below {w w' : World} {b off : Nat} {R : List Int} (h : IntsAt w b off R) {B : Nat} (hb : Below B w w') (hB : b < B) : IntsAt w' b off R := fun i v hi => (hb.cell (p := ⟨b, _, none⟩) hB).trans (h i v hi)
def SameW3 (a b : World) : Prop := a = b
theorem SameW3.eq {a b : World} (h : SameW3 a b) : a = b := h
/-- may a task run at a time? -/
def slotOk (L : List (Int × Int × Int)) (now k : Int) : Bool := decide (k = -1) || (decide (0 ≤ k) && match L[k.toNat]? with
  | some (c, m, _) => decide (c ≤ now ∧ now < m)
  | none => false)
def lenOk (L : List (Int × Int × Int)) (R : List Int) (i : Nat) : Bool := match L[i]? with
  | some (_, _, g) => decide ((R.count (i : Int) : Int) = g)
  | none => true
def goodRow (L : List (Int × Int × Int)) (R : List Int) : Bool := decide (R.length = 200) && ((List.range L.length).all fun i => lenOk L R i) && ((List.range R.length).all fun t => match R[t]? with
  | some k => slotOk L t k
  | none => true)
theorem count_take {R : List Int} {j : Nat} {v : Int} (h : R[j]? = some v) (i : Int) : (R.take (j + 1)).count i = (R.take j).count i + (if v = i then 1 else 0) := by
  rw [List.take_add_one, h, List.count_append]
  simp [List.count_cons, List.count_nil]
set_option maxRecDepth 20000 in
set_option maxHeartbeats 4000000 in
theorem goodRow_any (L : List (Int × Int × Int)) (R : List Int) (s s2 : Option Addr) (n cap r cap2 : Nat) (w : World) (hn : n = L.length) (hmax : n ≤ 20) (hL : Needs w s L) (hr : r = R.length) (hmax2 : r ≤ 9223372036854775807) (hR : Ints w s2 R) :
    Calls Try.prog 47 #[.slice s n cap, .slice s2 r cap2] w fun e w' => e = .returned (.bool (goodRow L R)) ∧ Below w.heap.size w w' := by
  have HL := Lib.hid hL
  have HN := Lib.hid hn
  have HR := Lib.hid hR
  have HRN := Lib.hid hr
  clear hL hn hR hr
  by_cases h200 : r = 200
  · subst h200
    go_enter Try.func47, Try.ntmps47
    go_wp2_with fail
    go_loopw [17] (fun x wr => ∃ i : Nat, i ≤ n ∧ x = .int .i64 i ∧ Hid (∀ j, j < i → lenOk L R j = true) ∧ Below w.heap.size w wr) (fun x _ => n - (intOf x).toNat)
    case atStart => exact ⟨0, by omega, rfl, Lib.hid fun j hj => absurd hj (by omega), Below.refl _ _⟩
    case round =>
      obtain ⟨i, hi, rfl, HJ, hB⟩ := hrel
      by_cases hin : i < n
      · obtain ⟨b, off, rfl, hb, hat⟩ := HL.out (by have := HN.out; omega)
        obtain ⟨⟨c, m, g⟩, hx⟩ : ∃ x, L[i]? = some x := ⟨_, List.getElem?_eq_getElem (by have := HN.out; omega)⟩
        obtain ⟨q0, q1, q2⟩ := hat.below hB hb i c m g hx
        have HX := Lib.hid hx
        have hbr : b < wr.heap.size := Nat.lt_of_lt_of_le hb hB.size
        have hsz := hB.size
        have hdi : decide ((i : Int) < n) = true := by simp; omega
        clear hat hx
        go_wp2_with fail
        go_loopw [7, 24] (fun v x wx => ∃ j : Nat, j ≤ 200 ∧ x = .int .i64 j ∧ v = .int .i64 ((R.take j).count (i : Int) : Nat) ∧ SameW3 wx (wr.alloc (.cells #[.int .i64 c, .int .i64 m, .int .i64 g] 124))) (fun _ x _ => 200 - (intOf x).toNat)
        case atStart => exact ⟨0, by omega, rfl, by simp, rfl⟩
        case round =>
          obtain ⟨j, hj, rfl, rfl, hw⟩ := hrel
          have hw2 := hw.eq
          subst hw2
          clear hw
          by_cases hj2 : j < 200
          · obtain ⟨b2, off2, e2, hb2, hat2⟩ := HR.out (by have := HRN.out; omega)
            subst e2
            obtain ⟨v, hv⟩ : ∃ v, R[j]? = some v := ⟨_, List.getElem?_eq_getElem (by have := HRN.out; omega)⟩
            have p0 := hat2.below hB hb2 j v hv
            have hbr2 : b2 < wr.heap.size := Nat.lt_of_lt_of_le hb2 hB.size
            have HCT := Lib.hid (count_take hv (i : Int))
            have hcl : (R.take j).count (i : Int) ≤ 200 := by
              have := List.count_le_length (a := (i : Int)) (l := R.take j)
              simp at this
              omega
            clear hat2 hv
            by_cases hvi : v = (i : Int)
            · have hvb : (v == (i : Int)) = true := by simp [hvi]
              have HTV := Lib.hid (show (R.take (j + 1)).count (i : Int) = (R.take j).count (i : Int) + 1 from by rw [HCT.out, if_pos hvi])
              clear hvi
              generalize (R.take j).count (i : Int) = N at *
              go_wp2_with fail
              go_roundw
              case rel => exact ⟨j + 1, by omega, rfl, by rw [HTV.out]; rfl, rfl⟩
              case measure => simp [intOf]; omega
            · have hvb : (v == (i : Int)) = false := by simp [hvi]
              have HTV := Lib.hid (show (R.take (j + 1)).count (i : Int) = (R.take j).count (i : Int) from by rw [HCT.out, if_neg hvi]; rfl)
              clear hvi
              generalize (R.take j).count (i : Int) = N at *
              go_wp2_with fail
              go_roundw
              case rel => exact ⟨j + 1, by omega, rfl, by rw [HTV.out], rfl⟩
              case measure => simp [intOf]; omega
          · have HF := Lib.hid (show (R.take j).count (i : Int) = R.count (i : Int) from by rw [List.take_of_length_le (by have := HRN.out; omega)])
            by_cases hg : ((R.take j).count (i : Int) : Int) = g
            · have HJ2 := Lib.hid (show ∀ k, k < i + 1 → lenOk L R k = true from fun k hk => by
                by_cases e : k = i
                · subst e
                  rw [HF.out] at hg
                  simp [lenOk, HX.out, hg]
                · exact HJ.out k (by omega))
              have hgb : (((R.take j).count (i : Int) : Int) != g) = false := by simp [hg]
              generalize (R.take j).count (i : Int) = N at *
              have HG := Lib.hid hg
              clear hg
              go_wp2_with fail
              go_roundw
              case rel => exact ⟨i + 1, by omega, rfl, HJ2, by go_grown⟩
              case measure => simp [intOf]; omega
            · have HV := Lib.hid (show goodRow L R = false from by
                rw [HF.out] at hg
                have : lenOk L R i = false := by simp [lenOk, HX.out, hg]
                have h2 : ((List.range L.length).all fun i => lenOk L R i) = false := by
                  rw [List.all_eq_false]
                  exact ⟨i, by have := HN.out; simp; omega, by simp [this]⟩
                simp [goodRow, h2]).symm
              have hgb : (((R.take j).count (i : Int) : Int) != g) = true := by simp [hg]
              generalize (R.take j).count (i : Int) = N at *
              have HG := Lib.hid hg
              clear hg
              go_wp2_with fail
              go_ret
              exact ⟨ret_bool HV.out, by go_grown⟩
      · have HLO := Lib.hid (show ((List.range L.length).all fun i => lenOk L R i) = true from List.all_eq_true.2 fun k hk => HJ.out k (by have := HN.out; have := List.mem_range.1 hk; omega))
        go_wp2_with fail
        go_loopw [41] (fun x wx => ∃ j : Nat, j ≤ 200 ∧ x = .int .i64 j ∧ Hid (∀ k v, k < j → R[k]? = some v → slotOk L k v = true) ∧ SameW3 wx wr) (fun x _ => 200 - (intOf x).toNat)
        case atStart => exact ⟨0, by omega, rfl, Lib.hid fun k v hk => absurd hk (by omega), rfl⟩
        case round =>
          obtain ⟨j, hj, rfl, HS, hw⟩ := hrel
          have hw2 := hw.eq
          subst hw2
          clear hw
          by_cases hj2 : j < 200
          · obtain ⟨b2, off2, e2, hb2, hat2⟩ := HR.out (by have := HRN.out; omega)
            subst e2
            obtain ⟨v, hv⟩ : ∃ v, R[j]? = some v := ⟨_, List.getElem?_eq_getElem (by have := HRN.out; omega)⟩
            have p0 := hat2.below hB hb2 j v hv
            have hbr2 : b2 < wr.heap.size := Nat.lt_of_lt_of_le hb2 hB.size
            have HVV := Lib.hid hv
            have HYES := Lib.hid (show slotOk L j v = true → ∀ k u, k < j + 1 → R[k]? = some u → slotOk L k u = true from fun h k u hk hu => by
              by_cases e : k = j
              · subst e
                rw [hv] at hu
                obtain rfl := Option.some.inj hu
                exact h
              · exact HS.out k u (by omega) hu)
            have HNO := Lib.hid (show slotOk L j v = false → true = goodRow L R → False from fun h hh => by
              have h3 : ((List.range R.length).all fun t => match R[t]? with
                | some k => slotOk L t k
                | none => true) = false := by
                rw [List.all_eq_false]
                exact ⟨j, by have := HRN.out; simp; omega, by rw [hv]; simp [h]⟩
              rw [goodRow, h3] at hh
              simp at hh)
            have HNO2 := Lib.hid (show slotOk L j v = false → false = goodRow L R from fun h => by
              cases hg : goodRow L R with
              | false => rfl
              | true => exact (HNO.out h hg.symm).elim)
            clear hat2 hv
            by_cases hm1 : v = -1
            · have HS2 := Lib.hid (HYES.out (by simp [slotOk, hm1]))
              subst hm1
              go_wp2_with fail
              go_roundw
              case rel => exact ⟨j + 1, by omega, rfl, HS2, rfl⟩
              case measure => simp [intOf]; omega
            · by_cases hv0 : v < 0
              · have HV := Lib.hid (HNO2.out (by simp [slotOk, hm1]; omega))
                have hvb : (v != -1) = true := by simp [hm1]
                go_wp2_with fail
                go_ret
                exact ⟨ret_bool HV.out, hB⟩
              · obtain ⟨vn, rfl⟩ := Int.eq_ofNat_of_zero_le (show 0 ≤ v by omega)
                have hvb : (((vn : Nat) : Int) != -1) = true := by simp
                by_cases hvn : vn < n
                · obtain ⟨b, off, e1, hb, hat⟩ := HL.out (by have := HN.out; omega)
                  subst e1
                  obtain ⟨⟨c, m, g⟩, hx⟩ : ∃ x, L[vn]? = some x := ⟨_, List.getElem?_eq_getElem (by have := HN.out; omega)⟩
                  obtain ⟨q0, q1, q2⟩ := hat.below hB hb vn c m g hx
                  have hbr : b < wr.heap.size := Nat.lt_of_lt_of_le hb hB.size
                  have HSL := Lib.hid (show slotOk L j (vn : Int) = decide (c ≤ (j : Int) ∧ (j : Int) < m) from by
                    have : ¬ ((vn : Int) = -1) := by omega
                    simp [slotOk, hx, this])
                  clear hat hx hm1 hv0
                  by_cases k1 : (j : Int) < c
                  · have HV := Lib.hid (HNO2.out (by rw [HSL.out]; simp; omega))
                    go_wp2_with fail
                    go_ret
                    exact ⟨ret_bool HV.out, hB⟩
                  · by_cases k2 : m ≤ (j : Int)
                    · have HV := Lib.hid (HNO2.out (by rw [HSL.out]; simp; omega))
                      go_wp2_with fail
                      go_ret
                      exact ⟨ret_bool HV.out, hB⟩
                    · have HS2 := Lib.hid (HYES.out (by rw [HSL.out]; simp; omega))
                      go_wp2_with fail
                      go_roundw
                      case rel => exact ⟨j + 1, by omega, rfl, HS2, rfl⟩
                      case measure => simp [intOf]; omega
                · have HV := Lib.hid (HNO2.out (by
                    have : L[vn]? = none := List.getElem?_eq_none (by have := HN.out; omega)
                    have h1 : ¬ ((vn : Int) = -1) := by omega
                    simp [slotOk, this, h1]))
                  clear hm1 hv0
                  go_wp2_with fail
                  go_ret
                  exact ⟨ret_bool HV.out, hB⟩
          · have HV := Lib.hid (show goodRow L R = true from by
              have h3 : ((List.range R.length).all fun t => match R[t]? with
                | some k => slotOk L t k
                | none => true) = true := List.all_eq_true.2 fun t ht => by
                have htl := List.mem_range.1 ht
                have hv : R[t]? = some R[t] := List.getElem?_eq_getElem htl
                rw [hv]
                exact HS.out t _ (by have := HRN.out; omega) hv
              rw [goodRow, HLO.out, h3]
              simp
              exact HRN.out.symm).symm
            go_wp2_with fail
            go_ret
            exact ⟨ret_bool HV.out, hB⟩
  · have HV := Lib.hid (show goodRow L R = false from by
      have : ¬ R.length = 200 := by have := HRN.out; omega
      simp [goodRow, this]).symm
    have hb : ((r : Int) != 200) = true := by simp; omega
    go_enter Try.func47, Try.ntmps47
    go_wp2_with fail
    go_ret
    exact ⟨ret_bool HV.out, by go_grown⟩
end Go.Proofs.Ytdbipmidjdhjpaa
