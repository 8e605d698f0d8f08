/- Contract: tasks run, earliest due first; the program's. -/
import Derived.Test.YtdbipmidjdhjpaaDueBridge
import Derived.Test.YtdbipmidjdhjpaaOwn
namespace Go.Proofs.Ytdbipmidjdhjpaa
open Go.ChangeShapes Go.WideShapes Go.ChangeAt Go.RowKit
set_option linter.unusedVariables false
theorem infoInt : (Try.prog.info? 3).map (fun i => (i.zero, i.size, i.bytes)) = some (some (.int .i64 0), 1, 8) := by kernel_rfl
theorem infoBool : (Try.prog.info? 4).map (fun i => (i.zero, i.size, i.bytes)) = some (some (.bool false), 1, 1) := by kernel_rfl
theorem lateI_len (L : Tk) : ∀ k, (lateI L k).length ≤ k
  | 0 => Nat.le_refl _
  | k + 1 => by
    have := lateI_len L k
    unfold lateI
    split
    · simp; omega
    · omega
theorem tN_nonneg {L : Tk} (h : OkT L) (i : Nat) : 0 ≤ tN L i := by
  by_cases hi : i < L.length
  · have := (h i hi).2.2.2.1; omega
  · have : L[i]? = none := List.getElem?_eq_none (by omega)
    simp [tN, tk, List.getD, this]
structure RunInit (L : Tk) (n H k : Nat) (w wr : World) : Prop where
  left : wr.rowIs H 3 n (fun i => .int .i64 (if i < k then tN L i else 0))
  bad : wr.rowIs (H + 1) 4 n (fun i => .bool false)
  below : Below H w wr
structure RunW (L : Tk) (n H t : Nat) (v : Value) (w wr : World) : Prop where
  left : wr.rowIs H 3 n (fun i => .int .i64 (tN L i - ((rowI L t).count (i : Int) : Int)))
  bad : wr.rowIs (H + 1) 4 n (fun i => .bool (badB L t i))
  own : wr.ownsRow (H + 2) 3 1 v t ((rowI L t).map (Value.int .i64))
  below : Below H w wr
theorem RunW.step {L : Tk} {n H t : Nat} {v : Value} {w wr w' : World} (h : RunW L n H t v w wr) (hb : Below wr.heap.size wr w') : RunW L n H t v w w' :=
  ⟨rowIs_below h.left hb h.left.lt, rowIs_below h.bad hb h.bad.lt, ownsRow_below h.own hb, h.below.trans (hb.mono (Nat.le_of_lt h.left.lt))⟩
structure RunP (L : Tk) (n H t : Nat) (v : Value) (w wr : World) : Prop where
  left : wr.rowIs H 3 n (fun i => .int .i64 (tN L i - ((rowI L t).count (i : Int) : Int)))
  bad : wr.rowIs (H + 1) 4 n (fun i => .bool (badB L t i))
  own : wr.ownsRow (H + 2) 3 1 v (t + 1) ((rowI L (t + 1)).map (Value.int .i64))
  below : Below H w wr
theorem RunW.pushed {L : Tk} {n H t : Nat} {v v' : Value} {w wr w1 : World} {y : Int} (h : RunW L n H t v w wr) (hH : H ≤ wr.heap.size) (hs : rowI L (t + 1) = rowI L t ++ [y]) (ho : w1.ownsRow (H + 2) 3 1 v' (t + 1) ((rowI L t).map (Value.int .i64) ++ [.int .i64 y])) (hg : wr.grownBy w1 v.ownBlock) : RunP L n H t v' w w1 :=
  ⟨rowIs_grown h.left hg (ownBlock_ne h.own (by omega)), rowIs_grown h.bad hg (ownBlock_ne h.own (by omega)), by rw [hs]; simpa using ho, h.below.grown hg hH (ownBlock_ge h.own (by omega))⟩
theorem RunP.neg {L : Tk} {n H t : Nat} {v : Value} {w wr : World} (h : RunP L n H t v w wr) (hO : OkT L) (hn : n = L.length) (hy : bestI L (rowI L t) t L.length < 0) : RunW L n H (t + 1) v w wr :=
  ⟨h.left.congr fun i hi => by rw [count_succ, if_neg (by omega)]; rfl, h.bad.congr fun i hi => by
    have : decide (bestI L (rowI L t) t L.length = i) = false := by simp; omega
    rw [badB_succ _ _ _ (hO i (by omega)).2.1, this]; simp, h.own, h.below⟩
theorem RunP.pos {L : Tk} {n H t yn : Nat} {v : Value} {w wr : World} (h : RunP L n H t v w wr) (hO : OkT L) (hn : n = L.length) (hy : bestI L (rowI L t) t L.length = (yn : Int)) :
    RunW L n H (t + 1) v w ((wr.setCell ⟨H, yn, none⟩ (.int .i64 (tN L yn - ((rowI L t).count (yn : Int) : Int) - 1))).setCell ⟨H + 1, yn, none⟩ (.bool (badB L t yn || decide (tD L yn ≤ t)))) := by
  refine ⟨((h.left.set yn _).setOther (by simp) _).congr fun i hi => ?_, ((h.bad.setOther (a := ⟨H, yn, none⟩) (by simp) _).set yn _).congr fun i hi => ?_, ownsRow_setCell_below (ownsRow_setCell_below h.own (by simp) _) (by simp) _, (h.below.setCell (by simp) _).setCell (by simp) _⟩
  · rw [count_succ, hy]
    by_cases e : i = yn
    · subst e; simp; omega
    · have : ¬ (yn : Int) = (i : Int) := by omega
      simp [e, this]
  · rw [badB_succ _ _ _ (hO i (by omega)).2.1, hy]
    by_cases e : i = yn
    · subst e; simp
    · have : ¬ (yn : Int) = (i : Int) := by omega
      simp [e, this]
def RunPost (L : Tk) (n : Nat) (w : World) (e : Ending) (w' : World) : Prop := ∃ v1 v2, e = .returned (.tuple #[v1, v2]) ∧ IsVals w' v1 ((rowI L 200).map (Value.int .i64)) ∧ IsVals w' v2 ((lateI L n).map (Value.int .i64)) ∧ Below w.heap.size w w'
set_option maxRecDepth 20000 in
set_option maxHeartbeats 4000000 in
theorem run_any (L : Tk) (s : Option Addr) (n cap : Nat) (w : World) (hn : n = L.length) (hmax : n ≤ 20) (hL : Needs w s L) (hT : tasksB L = true) :
    Calls Try.prog 65 #[.slice s n cap] w (RunPost L n w) := by
  have HL := Lib.hid hL
  have HN := Lib.hid hn
  have HO := Lib.hid (okT hT)
  clear hL hn hT
  have hmk1 := run_make_row' (P := Try.prog) 24 3 (.int .i64 0) 8 Try.underlying24 infoInt rfl .i64 .i64 n (by omega) (by omega)
  have hmk2 := run_make_row' (P := Try.prog) 130 4 (.bool false) 1 Try.underlying130 infoBool rfl .i64 .i64 n (by omega) (by omega)
  go_enter Try.func65, Try.ntmps65
  go_wp2_with fail
  clear hmk1 hmk2
  go_loopw [21] (fun x wr => ∃ k : Nat, k ≤ n ∧ x = .int .i64 k ∧ Hid (RunInit L n w.heap.size k w wr)) (fun x _ => n - (intOf x).toNat)
  case atStart => exact ⟨0, by omega, rfl, Lib.hid ⟨((World.rowIs_made w _ n _).alloc _).congr fun i hi => rfl, rowIs_made_at _ _ _ _ (by simp), by go_grown⟩⟩
  case round =>
    obtain ⟨k, hk, rfl, HI⟩ := hrel
    by_cases hkn : k < n
    · obtain ⟨b, off, rfl, hb, hat⟩ := HL.out (by have := HN.out; omega)
      obtain ⟨⟨c, m, g⟩, hx⟩ : ∃ x, L[k]? = some x := ⟨_, List.getElem?_eq_getElem (by have := HN.out; omega)⟩
      obtain ⟨q0, q1, q2⟩ := hat.below HI.out.below hb k c m g hx
      have hcl := HI.out.left.cell hkn
      have hfl := HI.out.left.frozen k
      have hHs := HI.out.left.lt
      have hbr : b < wr.heap.size := Nat.lt_of_lt_of_le hb HI.out.below.size
      have HX := Lib.hid (tk_at hx).2.2
      clear hat hx
      go_wp2_with fail
      go_roundw
      case rel =>
        refine ⟨k + 1, by omega, rfl, Lib.hid ⟨?_, ?_, ?_⟩⟩
        · refine ((HI.out.left.set k _).alloc _).congr fun i hi => ?_
          by_cases e : i = k
          · subst e; simp [HX.out]
          · have : (i < k + 1) = (i < k) := by simp; omega
            simp only [e, if_false, this]
        · exact (HI.out.bad.setOther (a := ⟨w.heap.size, k, none⟩) (by simp) _).alloc _
        · have := HI.out.below; go_grown
      case measure => simp [intOf]; omega
    · obtain rfl : n = k := by omega
      have hR : RunW L n w.heap.size 0 (.slice none 0 0) w wr := ⟨HI.out.left.congr fun i hi => by simp [hi, rowI], HI.out.bad.congr fun i hi => by simp [badB_zero], by simpa [rowI] using World.ownsRow_nil _ _ _ _, HI.out.below⟩
      have HR := Lib.hid hR
      clear HI hR
      go_wp2_with fail
      go_loopw [2, 32] (fun v x wx => ∃ t : Nat, t ≤ 200 ∧ x = .int .i64 t ∧ Hid (RunW L n w.heap.size t v w wx)) (fun _ x _ => 200 - (intOf x).toNat)
      case atStart => exact ⟨0, by omega, rfl, HR⟩
      case round =>
        clear HR
        obtain ⟨t, ht, rfl, HR⟩ := hrel
        by_cases ht2 : t < 200
        · have hd1 : decide ((t : Int) < 200) = true := by simp; omega
          go_wp2_with fail
          go_loopw [9, 37] (fun y x wx => ∃ k : Nat, k ≤ n ∧ x = .int .i64 k ∧ y = .int .i64 (bestI L (rowI L t) t k) ∧ Hid (RunW L n w.heap.size t u2 w wx)) (fun _ x _ => n - (intOf x).toNat)
          case atStart => exact ⟨0, by omega, rfl, rfl, HR⟩
          case round =>
            clear HR
            obtain ⟨k, hk, rfl, rfl, HR⟩ := hrel
            by_cases hkn : k < n
            · obtain ⟨b, off, rfl, hb, hat⟩ := HL.out (by have := HN.out; omega)
              obtain ⟨⟨c, m, g⟩, hx⟩ : ∃ x, L[k]? = some x := ⟨_, List.getElem?_eq_getElem (by have := HN.out; omega)⟩
              obtain ⟨q0, q1, q2⟩ := hat.below HR.out.below hb k c m g hx
              obtain ⟨e1, e2, e3⟩ := tk_at hx
              have HAT := Lib.hid (hat.below HR.out.below hb)
              have hcl := HR.out.left.cell hkn
              have hHs := HR.out.left.lt
              have hbr : b < wr.heap.size := Nat.lt_of_lt_of_le hb HR.out.below.size
              have HX := Lib.hid (show tA L k = c ∧ tD L k = m ∧ tN L k = g from ⟨e1, e2, e3⟩)
              have hr := bestI_range L (rowI L t) t k
              have HB := Lib.hid (show bestI L (rowI L t) t (k + 1) = if tA L k ≤ t ∧ ((rowI L t).count (k : Int) : Int) < tN L k ∧ (bestI L (rowI L t) t k < 0 ∨ tD L k < tD L (bestI L (rowI L t) t k).toNat) then (k : Int) else bestI L (rowI L t) t k from rfl)
              rw [e3] at hcl
              obtain ⟨p1, p2⟩ := hr
              clear hat hx e1 e2 e3
              generalize (rowI L t).count (k : Int) = N at *
              generalize bestI L (rowI L t) t k = y at *
              have HRest : ∀ w', Below wr.heap.size wr w' → Hid (RunW L n w.heap.size t u2 w w') := fun w' hb => Lib.hid (HR.out.step hb)
              have HREST := Lib.hid HRest
              clear HRest
              by_cases hA : c ≤ t
              · have hAd : decide (c ≤ (t : Int)) = true := by simp [hA]
                by_cases hN : (N : Int) < g
                · have hNd : decide ((0 : Int) < g - N) = true := by simp; omega
                  by_cases hy : y < 0
                  · have hyd : decide (y < 0) = true := by simp [hy]
                    have HV := Lib.hid (HB.out.trans (if_pos ⟨by rw [HX.out.1]; exact hA, by rw [HX.out.2.2]; exact hN, .inl hy⟩))
                    go_wp2_with fail
                    go_quiet (fail)
                    go_wp2_with fail
                    go_roundw
                    case rel => exact ⟨k + 1, by omega, rfl, by rw [HV.out], HREST.out _ (by refine below_drewN ?_ _; go_grown)⟩
                    case measure => simp [intOf]; omega
                  · have hyd : decide (y < 0) = false := by simp; omega
                    obtain ⟨yn, rfl⟩ := Int.eq_ofNat_of_zero_le (show 0 ≤ y by omega)
                    obtain ⟨⟨c', m', g'⟩, hx'⟩ : ∃ x, L[yn]? = some x := ⟨_, List.getElem?_eq_getElem (by have := HN.out; omega)⟩
                    obtain ⟨_, r1, _⟩ := HAT.out yn c' m' g' hx'
                    have HX' := Lib.hid (tk_at hx').2.1
                    clear hx'
                    by_cases hm : m < m'
                    · have hmd : decide (m < m') = true := by simp [hm]
                      have HV := Lib.hid (HB.out.trans (if_pos ⟨by rw [HX.out.1]; exact hA, by rw [HX.out.2.2]; exact hN, .inr (by rw [HX.out.2.1, Int.toNat_natCast, HX'.out]; exact hm)⟩))
                      go_wp2_with fail
                      go_quiet (fail)
                      go_wp2_with fail
                      go_roundw
                      case rel => exact ⟨k + 1, by omega, rfl, by rw [HV.out], HREST.out _ (by refine below_drewN ?_ _; go_grown)⟩
                      case measure => simp [intOf]; omega
                    · have hmd : decide (m < m') = false := by simp; omega
                      have HV := Lib.hid (HB.out.trans (if_neg (by rw [HX.out.2.1, Int.toNat_natCast, HX'.out]; rintro ⟨_, _, h | h⟩ <;> omega)))
                      go_wp2_with fail
                      go_quiet (fail)
                      go_wp2_with fail
                      go_roundw
                      case rel => exact ⟨k + 1, by omega, rfl, by rw [HV.out], HREST.out _ (by refine below_drewN ?_ _; go_grown)⟩
                      case measure => simp [intOf]; omega
                · have hNd : decide ((0 : Int) < g - N) = false := by simp; omega
                  have hNd2 : decide ((N : Int) < g) = false := by simp; omega
                  have HV := Lib.hid (HB.out.trans (if_neg (by rw [HX.out.2.2]; rintro ⟨_, h, _⟩; omega)))
                  go_wp2_with fail
                  go_quiet (fail)
                  go_wp2_with fail
                  go_roundw
                  case rel => exact ⟨k + 1, by omega, rfl, by rw [HV.out], HREST.out _ (by refine below_drewN ?_ _; go_grown)⟩
                  case measure => simp [intOf]; omega
              · have hAd : decide (c ≤ (t : Int)) = false := by simp; omega
                have HV := Lib.hid (HB.out.trans (if_neg (by rw [HX.out.1]; rintro ⟨h, _⟩; omega)))
                go_wp2_with fail
                go_quiet (fail)
                go_wp2_with fail
                go_roundw
                case rel => exact ⟨k + 1, by omega, rfl, by rw [HV.out], HREST.out _ (by refine below_drewN ?_ _; go_grown)⟩
                case measure => simp [intOf]; omega
            · obtain rfl : n = k := by omega
              have hr := bestI_range L (rowI L t) t n
              have hHs := HR.out.left.lt
              have hB2 := HR.out.below.size
              have HBS := Lib.hid (show bestI L (rowI L t) t L.length = bestI L (rowI L t) t n from by rw [← HN.out])
              have HSUC := Lib.hid (show rowI L (t + 1) = rowI L t ++ [bestI L (rowI L t) t n] from by rw [rowI, HBS.out])
              obtain ⟨p1, p2⟩ := hr
              have HOWN := Lib.hid HR.out.own
              have HOK := Lib.hid (bestI_ok L (rowI L t) t n)
              generalize hyy : bestI L (rowI L t) t n = y at *
              have HY := Lib.hid HBS.out
              clear hyy
              by_cases hy : y < 0
              · have hyd : decide ((0 : Int) ≤ y) = false := by simp; omega
                go_wp2_with ((at_builtin; refine wpList_push _ (by rfl) _ _ 24 (by rfl) (w.heap.size + 2) 3 (.int .i64 0) 8 Try.underlying24 infoInt (by rfl) u2 t _ (.int .i64 y) _ rfl (by rfl) HOWN.out (by rfl) (by rfl) (by unfold maxLen; omega) (by omega) (by have := HR.out.bad.lt; omega) ?_; intro gg cap2 w1 hown1 hgrow1 hgb hgl; have HP := Lib.hid (HR.out.pushed (by omega) HSUC.out hown1 hgrow1); clear hown1 hgrow1))
                have HF := Lib.hid (HP.out.neg HO.out HN.out (by have := HY.out; omega))
                go_roundw
                case rel => exact ⟨t + 1, by omega, rfl, HF⟩
                case measure => simp [intOf]; omega
              · have hyd : decide ((0 : Int) ≤ y) = true := by simp; omega
                obtain ⟨yn, rfl⟩ := Int.eq_ofNat_of_zero_le (show 0 ≤ y by omega)
                have hyn : yn < n := by omega
                obtain ⟨b, off, rfl, hb, hat⟩ := HL.out (by have := HN.out; omega)
                obtain ⟨⟨c, m, g⟩, hx⟩ : ∃ x, L[yn]? = some x := ⟨_, List.getElem?_eq_getElem (by have := HN.out; omega)⟩
                have HAT := Lib.hid hat
                have HXX := Lib.hid hx
                have HT2 := Lib.hid (tk_at hx)
                have hok := (HOK.out yn rfl).2
                have htn := (HO.out yn (by have := HN.out; omega)).2.2.2.2.1
                have HQ : Hid (∃ q : Int, q = tN L yn - ((rowI L t).count (yn : Int) : Int) ∧ 0 < q ∧ q ≤ 200) := Lib.hid ⟨_, rfl, by omega, by omega⟩
                clear hat hx hok htn
                obtain ⟨q, hq, hq0, hq1⟩ := HQ.out
                have HQE := Lib.hid hq
                clear hq
                go_wp2_with ((at_builtin; refine wpList_push _ (by rfl) _ _ 24 (by rfl) (w.heap.size + 2) 3 (.int .i64 0) 8 Try.underlying24 infoInt (by rfl) u2 t _ (.int .i64 yn) _ rfl (by rfl) HOWN.out (by rfl) (by rfl) (by unfold maxLen; omega) (by omega) (by have := HR.out.bad.lt; omega) ?_; intro gg cap2 w1 hown1 hgrow1 hgb hgl; have HP := Lib.hid (HR.out.pushed (by omega) HSUC.out hown1 hgrow1); have l1 := HP.out.left.cell hyn; have l2 := HP.out.left.frozen yn; have l3 := HP.out.bad.cell hyn; have l4 := HP.out.bad.frozen yn; have l5 := HP.out.left.lt; have l6 := HP.out.bad.lt; obtain ⟨_, l7, _⟩ := (HAT.out.below HP.out.below hb) yn c m g HXX.out; rw [← HQE.out] at l1; clear hown1 hgrow1))
                all_goals
                  go_roundw
                  case rel =>
                    have hh := HP.out.pos HO.out HN.out HY.out
                    rw [← HQE.out, HT2.out.2.1] at hh
                    first
                      | (have e : badB L t yn = true := by assumption
                         rw [e, Bool.true_or] at hh
                         exact ⟨t + 1, by omega, rfl, Lib.hid hh⟩)
                      | (have e : ¬ badB L t yn = true := by assumption
                         rw [Bool.eq_false_iff.2 e, Bool.false_or] at hh
                         exact ⟨t + 1, by omega, rfl, Lib.hid hh⟩)
                  case measure => simp [intOf]; omega
        · obtain rfl : t = 200 := by omega
          obtain ⟨wo, rfl⟩ : ∃ wo : World, wo = wr := ⟨_, rfl⟩
          have HROW := Lib.hid (IsVals.own HR.out.own)
          have hHs := HR.out.left.lt
          have hBs := HR.out.bad.lt
          go_wp2_with fail
          go_loopw [3, 100] (fun v x wx => ∃ k : Nat, k ≤ n ∧ x = .int .i64 k ∧ Hid (wx.ownsRow wo.heap.size 3 1 v (lateI L k).length ((lateI L k).map (Value.int .i64))) ∧ Below wo.heap.size wo wx) (fun _ x _ => n - (intOf x).toNat)
          case atStart => exact ⟨0, by omega, rfl, Lib.hid (World.ownsRow_nil _ _ _ _), Below.refl _ _⟩
          case round =>
            obtain ⟨k, hk, rfl, HOWN, hB⟩ := hrel
            by_cases hkn : k < n
            · have l1 := (rowIs_below HR.out.left hB hHs).cell hkn
              have l3 := (rowIs_below HR.out.bad hB hBs).cell hkn
              have hsz := hB.size
              have hlen := lateI_len L k
              have HLATE := Lib.hid (late_eq L (fun i => tN_nonneg HO.out i) k)
              have HS : Hid (lateI L (k + 1) = if lateB L k then lateI L k ++ [(k : Int)] else lateI L k) := Lib.hid rfl
              generalize tN L k - ((rowI L 200).count (k : Int) : Int) = q at *
              cases hlb : lateB L k with
              | true =>
                have HS2 := Lib.hid (HS.out.trans (if_pos hlb))
                have HPU : Hid (∀ gg cap2 (w1 : World), w1.ownsRow wo.heap.size 3 1 (.slice (some ⟨gg, 0, none⟩) ((lateI L k).length + 1) cap2) ((lateI L k).length + 1) ((lateI L k).map (Value.int .i64) ++ [.int .i64 k]) → w1.ownsRow wo.heap.size 3 1 (.slice (some ⟨gg, 0, none⟩) ((lateI L k).length + 1) cap2) (lateI L (k + 1)).length ((lateI L (k + 1)).map (Value.int .i64))) := Lib.hid fun gg cap2 w1 h => by rw [HS2.out]; simpa using h
                have HE := Lib.hid (HLATE.out.symm.trans hlb)
                clear hlb
                have hcase : Hid (badB L 200 k = true ∨ (badB L 200 k = false ∧ 0 < q)) := Lib.hid (by have := HE.out; cases hb : badB L 200 k <;> simp_all)
                rcases hcase.out with h1 | ⟨h1, h2⟩
                all_goals
                  rw [h1] at l3
                  have H1 := Lib.hid h1
                  clear h1
                  go_wp2_with ((at_builtin; refine wpList_push _ (by rfl) _ _ 24 (by rfl) wo.heap.size 3 (.int .i64 0) 8 Try.underlying24 infoInt (by rfl) u3 (lateI L k).length _ (.int .i64 k) _ rfl (by rfl) HOWN.out (by rfl) (by rfl) (by unfold maxLen; omega) (by omega) (by omega) ?_; intro gg cap2 w1 hown1 hgrow1 hgb hgl; have HP := Lib.hid (HPU.out gg cap2 w1 hown1); have hB1 := hB.grown hgrow1 hsz (ownBlock_ge HOWN.out (Nat.le_refl _)); clear hown1 hgrow1))
                  go_roundw
                  case rel => first | exact ⟨k + 1, by omega, rfl, HP, hB1⟩ | ((repeat apply Exists.intro); exact ⟨⟨k + 1, by omega, rfl, HP, hB1⟩, rfl⟩)
                  case measure => simp [intOf]; omega
              | false =>
                have HS2 := Lib.hid (HS.out.trans (if_neg (by simp [hlb])))
                have HP : Hid (wr.ownsRow wo.heap.size 3 1 u3 (lateI L (k + 1)).length ((lateI L (k + 1)).map (Value.int .i64))) := Lib.hid (by rw [HS2.out]; exact HOWN.out)
                have HE := Lib.hid (HLATE.out.symm.trans hlb)
                clear hlb
                obtain ⟨h1, h2⟩ : badB L 200 k = false ∧ ¬ (0 < q) := by have := HE.out; simp_all
                rw [h1] at l3
                clear h1
                go_wp2_with fail
                go_roundw
                case rel => exact ⟨k + 1, by omega, rfl, HP, hB⟩
                case measure => simp [intOf]; omega
            · obtain rfl : n = k := by omega
              have HV := Lib.hid (IsVals.own HOWN.out)
              go_wp2_with fail
              go_ret2
              exact ⟨_, _, rfl, HROW.out.below hB (Nat.le_refl _), HV.out, HR.out.below.trans (hB.mono (Nat.le_of_lt hHs))⟩
end Go.Proofs.Ytdbipmidjdhjpaa
