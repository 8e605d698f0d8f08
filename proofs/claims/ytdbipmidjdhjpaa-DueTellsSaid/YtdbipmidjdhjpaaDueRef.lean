/- Contract: tasks run, earliest due first; the document's. -/
import Derived.Test.YtdbipmidjdhjpaaDueRun
import Derived.Test.YtdbipmidjdhjpaaDueRow
namespace Go.Proofs.Ytdbipmidjdhjpaa
open Go.ChangeShapes Go.WideShapes Go.ChangeAt Go.RowKit
set_option linter.unusedVariables false
/-- the row's numbers: those before t are done, the one at t is y -/
def rv (L : Tk) (t : Nat) (y : Int) (j : Nat) : Int := if j < t then bestI L (rowI L j) j L.length else if j = t then y else 0
theorem rv_done (L : Tk) (t j : Nat) : rv L t (bestI L (rowI L t) t L.length) j = rv L (t + 1) 0 j := by
  unfold rv
  by_cases h : j < t
  · rw [if_pos h, if_pos (by omega)]
  · by_cases e : j = t
    · subst e; rw [if_neg (by omega), if_pos rfl, if_pos (by omega)]
    · rw [if_neg h, if_neg e, if_neg (by omega)]; split <;> rfl
theorem rv_set (L : Tk) (t : Nat) (y z : Int) (j : Nat) : (if j = t then z else rv L t y j) = rv L t z j := by
  unfold rv
  by_cases h : j = t
  · subst h; simp
  · simp [h]
theorem rv_at (L : Tk) (t : Nat) (y : Int) : rv L t y t = y := by simp [rv]
theorem rv_row (L : Tk) {t j : Nat} (h : j < t) (y : Int) : (rowI L t)[j]? = some (rv L t y j) := by rw [rowI_at L h, rv, if_pos h]
theorem rv_list (L : Tk) : ∀ t y, (List.range t).map (rv L t y) = rowI L t := fun t y => by
  apply List.ext_getElem?
  intro j
  by_cases h : j < t
  · rw [rv_row L h y, List.getElem?_map, List.getElem?_range h]; rfl
  · rw [List.getElem?_eq_none (by simp; omega), List.getElem?_eq_none (by rw [rowI_length]; omega)]
structure RefW (L : Tk) (H t : Nat) (y : Int) (w wr : World) : Prop where
  row : wr.rowIs H 3 200 (fun j => .int .i64 (rv L t y j))
  below : Below H w wr
theorem RefW.step {L : Tk} {H t : Nat} {y : Int} {w wr w' : World} (h : RefW L H t y w wr) (hb : Below wr.heap.size wr w') : RefW L H t y w w' :=
  ⟨rowIs_below h.row hb h.row.lt, h.below.trans (hb.mono (Nat.le_of_lt h.row.lt))⟩
theorem RefW.put {L : Tk} {H t : Nat} {y : Int} {w wr : World} (h : RefW L H t y w wr) (z : Int) : RefW L H t z w (wr.setCell ⟨H, t, none⟩ (.int .i64 z)) :=
  ⟨(h.row.set t _).congr fun i hi => by rw [← rv_set L t y z i]; split <;> rfl, h.below.setCell (Nat.le_refl _) _⟩
set_option maxRecDepth 20000 in
set_option maxHeartbeats 4000000 in
theorem ref_any (L : Tk) (s : Option Addr) (n cap : Nat) (w : World) (hn : n = L.length) (hmax : n ≤ 20) (hL : Needs w s L) (hT : tasksB L = true) :
    Calls Try.prog 45 #[.slice s n cap] w (RunPost L n w) := by
  have HL := Lib.hid hL
  have HN := Lib.hid hn
  have HO := Lib.hid (okT hT)
  clear hL hn hT
  have hmk : ∀ w, (Instr.makeSlice 24 (.int .i64 200) (.int .i64 200)).run Try.prog w = .ok (.slice (some ⟨w.heap.size, 0, none⟩) 200 200) (w.alloc (.cells (madeCells #[.int .i64 0] 200) 3)) := run_make_row' (P := Try.prog) 24 3 (.int .i64 0) 8 Try.underlying24 infoInt rfl .i64 .i64 200 (by omega) (by omega)
  go_enter Try.func45, Try.ntmps45
  go_wp2_with fail
  clear hmk
  go_loopw [20] (fun x wr => ∃ t : Nat, t ≤ 200 ∧ x = .int .i64 t ∧ Hid (RefW L w.heap.size t 0 w wr)) (fun x _ => 200 - (intOf x).toNat)
  case atStart => exact ⟨0, by omega, rfl, Lib.hid ⟨(rowIs_made_at _ _ _ _ rfl).congr fun i hi => by simp [rv], by go_grown⟩⟩
  case round =>
    obtain ⟨t, ht, rfl, HR⟩ := hrel
    by_cases ht2 : t < 200
    · have hd1 : decide ((t : Int) < 200) = true := by simp; omega
      have c0 := HR.out.row.cell ht2
      have c1 := HR.out.row.frozen t
      have c2 := HR.out.row.lt
      go_wp2_with fail
      have HR1 := Lib.hid (HR.out.put (-1))
      clear c0 c1 HR
      go_loopw [28] (fun x wx => ∃ k : Nat, k ≤ n ∧ x = .int .i64 k ∧ Hid (RefW L w.heap.size t (bestI L (rowI L t) t k) w wx)) (fun x _ => n - (intOf x).toNat)
      case atStart => exact ⟨0, by omega, rfl, HR1⟩
      case round =>
        clear HR1 c2
        obtain ⟨k, hk, rfl, HR⟩ := hrel
        by_cases hkn : k < n
        · obtain ⟨b, off, rfl, hb, hat⟩ := HL.out (by have := HN.out; omega)
          obtain ⟨⟨c, m, g⟩, hx⟩ : ∃ x, L[k]? = some x := ⟨_, List.getElem?_eq_getElem (by have := HN.out; omega)⟩
          obtain ⟨q0, q1, q2⟩ := hat.below HR.out.below hb k c m g hx
          obtain ⟨e1, e2, e3⟩ := tk_at hx
          have HAT := Lib.hid (hat.below HR.out.below hb)
          have hHs := HR.out.row.lt
          have hbr : b < wr.heap.size := Nat.lt_of_lt_of_le hb HR.out.below.size
          have HX := Lib.hid (show tA L k = c ∧ tD L k = m ∧ tN L k = g from ⟨e1, e2, e3⟩)
          have hr := bestI_range L (rowI L t) t k
          have HB := Lib.hid (show bestI L (rowI L t) t (k + 1) = if tA L k ≤ t ∧ ((rowI L t).count (k : Int) : Int) < tN L k ∧ (bestI L (rowI L t) t k < 0 ∨ tD L k < tD L (bestI L (rowI L t) t k).toNat) then (k : Int) else bestI L (rowI L t) t k from rfl)
          have HCL := Lib.hid HR.out.row
          obtain ⟨p1, p2⟩ := hr
          clear hat hx e1 e2 e3
          generalize bestI L (rowI L t) t k = y at *
          go_wp2_with fail
          go_loop [8, 37] (fun v x => ∃ j : Nat, j ≤ t ∧ x = .int .i64 j ∧ v = .int .i64 (((rowI L t).take j).count (k : Int) : Nat)) (fun _ x => t - (intOf x).toNat)
          case atStart => exact ⟨0, by omega, rfl, by simp⟩
          case round =>
            obtain ⟨j, hj, rfl, rfl⟩ := hrel
            by_cases hjt : j < t
            · have c0 := HCL.out.cell (i := j) (by omega)
              have HCT := Lib.hid (count_take (rv_row L hjt y) (k : Int))
              have hcl : ((rowI L t).take j).count (k : Int) ≤ 200 := by
                have := List.count_le_length (a := (k : Int)) (l := (rowI L t).take j)
                simp at this
                omega
              generalize rv L t y j = z at *
              by_cases hz : z = (k : Int)
              · have hzb : (z == (k : Int)) = true := by simp [hz]
                have HTV := Lib.hid (show ((rowI L t).take (j + 1)).count (k : Int) = ((rowI L t).take j).count (k : Int) + 1 from by rw [HCT.out, if_pos hz])
                clear hz
                generalize ((rowI L t).take j).count (k : Int) = N at *
                go_wp2_with fail
                go_round
                case rel => exact ⟨j + 1, by omega, rfl, by rw [HTV.out]; rfl⟩
                case measure => simp [intOf]; omega
              · have hzb : (z == (k : Int)) = false := by simp [hz]
                have HTV := Lib.hid (show ((rowI L t).take (j + 1)).count (k : Int) = ((rowI L t).take j).count (k : Int) from by rw [HCT.out, if_neg hz]; rfl)
                clear hz
                generalize ((rowI L t).take j).count (k : Int) = N at *
                go_wp2_with fail
                go_round
                case rel => exact ⟨j + 1, by omega, rfl, by rw [HTV.out]⟩
                case measure => simp [intOf]; omega
            · have HF := Lib.hid (show ((rowI L t).take j).count (k : Int) = (rowI L t).count (k : Int) from by rw [List.take_of_length_le (by rw [rowI_length]; omega)])
              rw [HF.out]
              clear HF
              have c0 := HCL.out.cell ht2
              have c1 := HCL.out.frozen t
              rw [rv_at] at c0
              have HREST := Lib.hid (show ∀ w', Below wr.heap.size wr w' → RefW L w.heap.size t y w w' from fun w' hb => HR.out.step hb)
              generalize (rowI L t).count (k : Int) = N at *
              have hDr := fun (nq : Nat) => below_drewN ((Below.refl wr.heap.size wr).alloc (Nat.le_refl _) (.cells #[.int .i64 c, .int .i64 m, .int .i64 g] 124)) nq
              have HDR := Lib.hid hDr
              clear hDr
              by_cases hA : c ≤ t
              · have hAd : decide (c ≤ (t : Int)) = true := by simp [hA]
                by_cases hN : (N : Int) < g
                · have hNd : decide ((N : Int) < g) = true := by simp [hN]
                  by_cases hy : y < 0
                  · have hyd : decide (y < 0) = true := by simp [hy]
                    have HV := Lib.hid (HB.out.trans (if_pos ⟨by rw [HX.out.1]; exact hA, by rw [HX.out.2.2]; exact hN, .inl hy⟩))
                    go_wp2_with fail
                    go_quiet (fail)
                    go_wp2_with fail
                    go_roundw
                    case rel => exact ⟨k + 1, by omega, rfl, by rw [HV.out]; exact Lib.hid ((HREST.out _ (by refine below_drewN ?_ _; go_grown)).put k)⟩
                    case measure => simp [intOf]; omega
                  · have hyd : decide (y < 0) = false := by simp; omega
                    obtain ⟨yn, rfl⟩ := Int.eq_ofNat_of_zero_le (show 0 ≤ y by omega)
                    obtain ⟨⟨c', m', g'⟩, hx'⟩ : ∃ x, L[yn]? = some x := ⟨_, List.getElem?_eq_getElem (by have := HN.out; omega)⟩
                    obtain ⟨_, r1, _⟩ := HAT.out yn c' m' g' hx'
                    have HX' := Lib.hid (tk_at hx').2.1
                    clear hx'
                    by_cases hm : m < m'
                    · have hmd : decide (m < m') = true := by simp [hm]
                      have HV := Lib.hid (HB.out.trans (if_pos ⟨by rw [HX.out.1]; exact hA, by rw [HX.out.2.2]; exact hN, .inr (by rw [HX.out.2.1, Int.toNat_natCast, HX'.out]; exact hm)⟩))
                      go_wp2_with fail
                      go_quiet (fail)
                      go_wp2_with fail
                      go_roundw
                      case rel => exact ⟨k + 1, by omega, rfl, by rw [HV.out]; exact Lib.hid ((HREST.out _ (by refine below_drewN ?_ _; go_grown)).put k)⟩
                      case measure => simp [intOf]; omega
                    · have hmd : decide (m < m') = false := by simp; omega
                      have HV := Lib.hid (HB.out.trans (if_neg (by rw [HX.out.2.1, Int.toNat_natCast, HX'.out]; rintro ⟨_, _, h | h⟩ <;> omega)))
                      go_wp2_with fail
                      go_quiet (fail)
                      go_wp2_with fail
                      go_roundw
                      case rel => exact ⟨k + 1, by omega, rfl, by rw [HV.out]; exact Lib.hid (HREST.out _ (HDR.out _))⟩
                      case measure => simp [intOf]; omega
                · have hNd : decide ((N : Int) < g) = false := by simp; omega
                  have HV := Lib.hid (HB.out.trans (if_neg (by rw [HX.out.2.2]; rintro ⟨_, h, _⟩; omega)))
                  go_wp2_with fail
                  go_quiet (fail)
                  go_wp2_with fail
                  go_roundw
                  case rel => exact ⟨k + 1, by omega, rfl, by rw [HV.out]; exact Lib.hid (HREST.out _ (HDR.out _))⟩
                  case measure => simp [intOf]; omega
              · have hAd : decide (c ≤ (t : Int)) = false := by simp; omega
                have HV := Lib.hid (HB.out.trans (if_neg (by rw [HX.out.1]; rintro ⟨h, _⟩; omega)))
                go_wp2_with fail
                go_quiet (fail)
                go_wp2_with fail
                go_roundw
                case rel => exact ⟨k + 1, by omega, rfl, by rw [HV.out]; exact Lib.hid (HREST.out _ (HDR.out _))⟩
                case measure => simp [intOf]; omega
        · obtain rfl : n = k := by omega
          have HF := Lib.hid (show RefW L w.heap.size (t + 1) 0 w wr from ⟨HR.out.row.congr fun i hi => by rw [← rv_done, ← HN.out], HR.out.below⟩)
          go_wp2_with fail
          go_roundw
          case rel => exact ⟨t + 1, by omega, rfl, HF⟩
          case measure => simp [intOf]; omega
    · obtain rfl : t = 200 := by omega
      obtain ⟨wo, rfl⟩ : ∃ wo : World, wo = wr := ⟨_, rfl⟩
      have hHs := HR.out.row.lt
      have HROW : Hid (IsVals wo (.slice (some ⟨w.heap.size, 0, none⟩) 200 200) ((rowI L 200).map (Value.int .i64))) := Lib.hid (by
        have := IsVals.row (cap := 200) HR.out.row
        rw [← rv_list L 200 0, List.map_map]
        exact this)
      go_wp2_with fail
      go_loopw [11, 85] (fun v x wx => ∃ k : Nat, k ≤ n ∧ x = .int .i64 k ∧ Hid (wx.ownsRow wo.heap.size 3 1 v (lateI L k).length ((lateI L k).map (Value.int .i64))) ∧ Below wo.heap.size wo wx) (fun _ x _ => n - (intOf x).toNat)
      case atStart => exact ⟨0, by omega, rfl, Lib.hid (World.ownsRow_nil _ _ _ _), Below.refl _ _⟩
      case round =>
        obtain ⟨k, hk, rfl, HOWN, hB⟩ := hrel
        by_cases hkn : k < n
        · obtain ⟨b, off, rfl, hb, hat⟩ := HL.out (by have := HN.out; omega)
          obtain ⟨⟨c, m, g⟩, hx⟩ : ∃ x, L[k]? = some x := ⟨_, List.getElem?_eq_getElem (by have := HN.out; omega)⟩
          have hb0 : b < wo.heap.size := by omega
          obtain ⟨q0, q1, q2⟩ := (hat.below HR.out.below hb).below hB hb0 k c m g hx
          have hsz := hB.size
          have hbr : b < wr.heap.size := by omega
          have HX := Lib.hid (tk_at hx)
          have ho := HO.out k (by have := HN.out; omega)
          rw [HX.out.1, HX.out.2.1, HX.out.2.2] at ho
          obtain ⟨o1, o2, o3, o4, o5, o6⟩ := ho
          have HCL := Lib.hid (rowIs_below HR.out.row hB hHs)
          obtain ⟨d, rfl⟩ := Int.eq_ofNat_of_zero_le o2
          have hlen := lateI_len L k
          have HLATE : Hid (lateB L k = decide ((((rowI L 200).take d).count (k : Int) : Int) < g)) := Lib.hid (by unfold lateB; rw [HX.out.2.1, HX.out.2.2, Int.toNat_natCast])
          have HS : Hid (lateI L (k + 1) = if lateB L k then lateI L k ++ [(k : Int)] else lateI L k) := Lib.hid rfl
          clear hat hx
          go_wp2_with fail
          go_loop [14, 95] (fun v x => ∃ j : Nat, j ≤ d ∧ x = .int .i64 j ∧ v = .int .i64 (((rowI L 200).take j).count (k : Int) : Nat)) (fun _ x => d - (intOf x).toNat)
          case atStart => exact ⟨0, by omega, rfl, by simp⟩
          case round =>
            obtain ⟨j, hj, rfl, rfl⟩ := hrel
            by_cases hjt : j < d
            · have c0 := HCL.out.cell (i := j) (by omega)
              have c2 : w.heap.size < wr.heap.size := by omega
              have HCT := Lib.hid (count_take (rv_row L (show j < 200 by omega) 0) (k : Int))
              have hcl : ((rowI L 200).take j).count (k : Int) ≤ 200 := by
                have := List.count_le_length (a := (k : Int)) (l := (rowI L 200).take j)
                simp at this
                omega
              generalize rv L 200 0 j = z at *
              by_cases hz : z = (k : Int)
              · have hzb : (z == (k : Int)) = true := by simp [hz]
                have HTV := Lib.hid (show ((rowI L 200).take (j + 1)).count (k : Int) = ((rowI L 200).take j).count (k : Int) + 1 from by rw [HCT.out, if_pos hz])
                clear hz
                generalize ((rowI L 200).take j).count (k : Int) = N at *
                go_wp2_with fail
                go_round
                case rel => exact ⟨j + 1, by omega, rfl, by rw [HTV.out]; rfl⟩
                case measure => simp [intOf]; omega
              · have hzb : (z == (k : Int)) = false := by simp [hz]
                have HTV := Lib.hid (show ((rowI L 200).take (j + 1)).count (k : Int) = ((rowI L 200).take j).count (k : Int) from by rw [HCT.out, if_neg hz]; rfl)
                clear hz
                generalize ((rowI L 200).take j).count (k : Int) = N at *
                go_wp2_with fail
                go_round
                case rel => exact ⟨j + 1, by omega, rfl, by rw [HTV.out]⟩
                case measure => simp [intOf]; omega
            · obtain rfl : d = j := by omega
              generalize ((rowI L 200).take d).count (k : Int) = N at *
              by_cases hN : (N : Int) < g
              · have hNd : decide ((N : Int) < g) = true := by simp [hN]
                have hlb := Lib.hid (HLATE.out.trans hNd)
                have HS2 := Lib.hid (HS.out.trans (if_pos hlb.out))
                have HPU : Hid (∀ gg cap2 (w1 : World), w1.ownsRow wo.heap.size 3 1 (.slice (some ⟨gg, 0, none⟩) ((lateI L k).length + 1) cap2) ((lateI L k).length + 1) ((lateI L k).map (Value.int .i64) ++ [.int .i64 k]) → w1.ownsRow wo.heap.size 3 1 (.slice (some ⟨gg, 0, none⟩) ((lateI L k).length + 1) cap2) (lateI L (k + 1)).length ((lateI L (k + 1)).map (Value.int .i64))) := Lib.hid fun gg cap2 w1 h => by rw [HS2.out]; simpa using h
                go_wp2_with ((at_builtin; refine wpList_push _ (by rfl) _ _ 24 (by rfl) wo.heap.size 3 (.int .i64 0) 8 Try.underlying24 infoInt (by rfl) u11 (lateI L k).length _ (.int .i64 k) (wr.heap.size + 1) (by simp) (by rfl) (HOWN.out.alloc _) (by rfl) (by rfl) (by unfold maxLen; omega) (by omega) (by simp; omega) ?_; intro gg cap2 w1 hown1 hgrow1 hgb hgl; have HP := Lib.hid (HPU.out gg cap2 w1 hown1); have hB1 := (hB.alloc hsz _).grown hgrow1 (by simp; omega) (ownBlock_ge HOWN.out (Nat.le_refl _)); clear hown1 hgrow1))
                go_roundw
                case rel => exact ⟨_, _, _, _, _, _, ⟨k + 1, by omega, rfl, HP⟩, rfl, rfl, rfl, rfl, rfl, rfl⟩
                case measure => simp [intOf]; omega
              · have hNd : decide ((N : Int) < g) = false := by simp; omega
                have hlb := Lib.hid (HLATE.out.trans hNd)
                have HS2 := Lib.hid (HS.out.trans (if_neg (by rw [hlb.out]; simp)))
                have HP : Hid ((wr.alloc (.cells #[.int .i64 c, .int .i64 d, .int .i64 g] 124)).ownsRow wo.heap.size 3 1 u11 (lateI L (k + 1)).length ((lateI L (k + 1)).map (Value.int .i64))) := Lib.hid (by rw [HS2.out]; exact HOWN.out.alloc _)
                go_wp2_with fail
                go_roundw
                case rel => exact ⟨k + 1, by omega, rfl, HP, by go_grown⟩
                case measure => simp [intOf]; omega
        · have HV := Lib.hid (IsVals.own HOWN.out)
          go_wp2_with fail
          go_ret2
          obtain rfl : n = k := by omega
          exact ⟨_, _, rfl, HROW.out.below hB (Nat.le_refl _), HV.out, HR.out.below.trans (hB.mono (Nat.le_of_lt hHs))⟩
end Go.Proofs.Ytdbipmidjdhjpaa
