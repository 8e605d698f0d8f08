/- Contract: a row of all; the document's (InRow). -/
import Derived.Test.YtdbipmidjdhjpaaDoorGraphOrder
namespace Go.Proofs.YtdbipmidjdhjpaaDoor
open Go.ChangeShapes Go.WideShapes Go.ChangeAt Go.RowKit
set_option linter.unusedVariables false
open Gr (El)
def okK (L : El) (left : Nat → Bool) (i k : Nat) : Bool := left i && !((L.take k).any fun x => decide (x.2 = (i : Int)) && left x.1.toNat)
theorem okK_zero (L : El) (left : Nat → Bool) (i : Nat) : okK L left i 0 = left i := by simp [okK]
theorem okK_all (L : El) (left : Nat → Bool) (i : Nat) : okK L left i L.length = Gr.okAt L left i := by simp [okK, Gr.okAt]
theorem okK_go {L : El} {k : Nat} {x y : Int} (h : L[k]? = some (x, y)) (left : Nat → Bool) (i : Nat) : okK L left i (k + 1) = (okK L left i k && !(decide (y = (i : Int)) && left x.toNat)) := by
  unfold okK
  rw [List.take_add_one, h]
  simp only [Option.toList_some, List.any_append, List.any_cons, List.any_nil, Bool.or_false, Bool.not_or, Bool.and_assoc]
structure IW (n H : Nat) (L : El) (t : Nat) (v : Value) (w wr : World) : Prop where
  row : wr.rowIs H 4 n (bools (not' (Gr.steps n L t).left))
  own : wr.ownsRow (H + 1) 3 1 v (Gr.steps n L t).row.length (nats (Gr.steps n L t).row)
  below : Below H w wr
theorem IW.step {n H : Nat} {L : El} {t : Nat} {v : Value} {w wr w' : World} (h : IW n H L t v w wr) (hb : Below wr.heap.size wr w') : IW n H L t v w w' :=
  ⟨rowIs_below h.row hb h.row.lt, ownsRow_below h.own hb, h.below.trans (hb.mono (Nat.le_of_lt h.row.lt))⟩
theorem IW.stuck {n H : Nat} {L : El} {t : Nat} {v : Value} {w wr : World} (h : IW n H L t v w wr) (hs : ∀ j, j < n → Gr.okAt L (Gr.steps n L t).left j = false) : IW n H L (t + 1) v w wr := by
  have hf : Gr.first n (Gr.okAt L (Gr.steps n L t).left) = n := Gr.first_is hs (Nat.le_refl _) (fun h => absurd h (by omega))
  have e : Gr.steps n L (t + 1) = Gr.steps n L t := Gr.step_stuck (by omega)
  exact ⟨by rw [e]; exact h.row, by rw [e]; exact h.own, h.below⟩
theorem IW.found {n H : Nat} {L : El} {t i : Nat} {v v' : Value} {w wr w1 : World} (h : IW n H L t v w wr) (hH : H < wr.heap.size) (hf : Gr.first n (Gr.okAt L (Gr.steps n L t).left) = i) (hi : i < n)
    (ho : w1.ownsRow (H + 1) 3 1 v' ((Gr.steps n L t).row.length + 1) (nats (Gr.steps n L t).row ++ [nat1 i])) (hg : wr.grownBy w1 v.ownBlock) : IW n H L (t + 1) v' w (w1.setCell ⟨H, i, none⟩ (.bool true)) := by
  have e : (Gr.steps n L (t + 1)).left = fun j => (Gr.steps n L t).left j && decide (j ≠ i) := by
    show (Gr.step n L (Gr.steps n L t)).left = _
    rw [Gr.step_go (by omega), hf]
  refine ⟨((rowIs_grown h.row hg (ownBlock_ne h.own (by omega))).set i _).congr fun j hj => ?_, ?_, (h.below.grown hg (by omega) (ownBlock_ge h.own (by omega))).setCell (Nat.le_refl _) _⟩
  · unfold bools not'
    rw [e]
    by_cases ej : j = i
    · simp [ej]
    · simp [ej]
  · refine ownsRow_setCell_below ?_ (by simp) _
    rw [steps_row hf hi, nats_snoc]
    simpa using ho
set_option maxRecDepth 20000 in
set_option maxHeartbeats 4000000 in
theorem InRow_any (n : Nat) (L : El) (a : Option Addr) (l cap : Nat) (w : World) (hn : l = L.length) (hl4 : l ≤ 400) (h60 : n ≤ 60) (hL : Edges w a L) (hO : Gr.Ok n L) :
    Calls Tryd.prog 29 #[.int .i64 n, .slice a l cap] w (Nats1 (Gr.steps n L n).row w) := by
  have HL := Lib.hid hL
  have HN := Lib.hid hn
  have HO := Lib.hid hO
  clear hL hn hO
  have hmk := run_make_row' (P := Tryd.prog) 46 4 (.bool false) 1 Tryd.underlying46 infoBool rfl .i64 .i64 n (by omega) (by omega)
  go_enter Tryd.func29, Tryd.ntmps29
  go_wp2_with fail
  clear hmk
  go_loopw [5, 14] (fun v x wr => ∃ t : Nat, t ≤ n ∧ x = .int .i64 t ∧ Hid (IW n w.heap.size L t v w wr)) (fun _ x _ => n - (intOf x).toNat)
  case atStart => exact ⟨0, by omega, rfl, Lib.hid ⟨(rowIs_made_at _ _ _ _ rfl).congr fun i hi => by simp [bools, not', Gr.steps, hi], World.ownsRow_nil _ _ _ _, by go_grown⟩⟩
  case round =>
    obtain ⟨t, ht, rfl, HW⟩ := hrel
    by_cases htn : t < n
    · go_wp2_with fail
      go_loopw [5, 17] (fun v x wx => ∃ i : Nat, i ≤ n ∧ x = .int .i64 i ∧ Hid (∀ j, j < i → Gr.okAt L (Gr.steps n L t).left j = false) ∧ Hid (IW n w.heap.size L t v w wx)) (fun _ x _ => n - (intOf x).toNat)
      case atStart => exact ⟨0, by omega, rfl, Lib.hid fun j hj => absurd hj (by omega), HW⟩
      case round =>
        clear HW
        obtain ⟨i, hi, rfl, HJ, HW⟩ := hrel
        by_cases hin : i < n
        · have c0 := HW.out.row.cell hin
          have hHs := HW.out.row.lt
          unfold bools not' at c0
          have HZ := Lib.hid (okK_zero L (Gr.steps n L t).left i)
          go_wp2_with fail
          go_loopw [8, 27] (fun v x wy => ∃ k : Nat, k ≤ l ∧ x = .int .i64 k ∧ v = .bool (okK L (Gr.steps n L t).left i k) ∧ Hid (IW n w.heap.size L t u5 w wy)) (fun _ x _ => l - (intOf x).toNat)
          case atStart => exact ⟨0, by omega, rfl, by rw [HZ.out], HW⟩
          case round =>
            clear HW c0 hHs HZ
            obtain ⟨k, hk, rfl, rfl, HW⟩ := hrel
            have hHs := HW.out.row.lt
            by_cases hkl : k < l
            · obtain ⟨b, off, rfl, hb, hat⟩ := HL.out (by have := HN.out; omega)
              obtain ⟨⟨x, y⟩, hx⟩ : ∃ x, L[k]? = some x := ⟨_, List.getElem?_eq_getElem (by have := HN.out; omega)⟩
              obtain ⟨q0, q1⟩ := hat.below HW.out.below hb k x y hx
              obtain ⟨o1, o2, o3, o4⟩ := HO.out _ (List.mem_of_getElem? hx)
              simp only at o1 o2 o3 o4
              have HGO := Lib.hid (okK_go hx (Gr.steps n L t).left i)
              have hbr : b < wr.heap.size := by have := HW.out.below.size; omega
              obtain ⟨j, rfl⟩ := Int.eq_ofNat_of_zero_le o1
              have hj : j < n := by omega
              have c0 := HW.out.row.cell hj
              unfold bools not' at c0
              have HW2 := Lib.hid (HW.out.step ((Below.refl wr.heap.size wr).alloc (Nat.le_refl _) (.cells #[.int .i64 j, .int .i64 y] 54)))
              clear hat hx
              by_cases hy : y = (i : Int)
              · have hyb : (y == (i : Int)) = true := by simp [hy]
                cases hlj : (Gr.steps n L t).left j with
                | true =>
                  rw [hlj] at c0
                  have HV := Lib.hid (show okK L (Gr.steps n L t).left i (k + 1) = false from by rw [HGO.out]; simp [hy, hlj])
                  clear hlj hy
                  generalize okK L (Gr.steps n L t).left i k = bb at *
                  go_wp2_with fail
                  go_roundw
                  case rel => exact ⟨k + 1, by omega, rfl, by rw [HV.out], HW2⟩
                  case measure => simp [intOf]; omega
                | false =>
                  rw [hlj] at c0
                  have HV := Lib.hid (show okK L (Gr.steps n L t).left i (k + 1) = okK L (Gr.steps n L t).left i k from by rw [HGO.out]; simp [hlj])
                  clear hlj hy
                  generalize okK L (Gr.steps n L t).left i k = bb at *
                  go_wp2_with fail
                  go_roundw
                  case rel => exact ⟨k + 1, by omega, rfl, by rw [HV.out], HW2⟩
                  case measure => simp [intOf]; omega
              · have hyb : (y == (i : Int)) = false := by simp [hy]
                have HV := Lib.hid (show okK L (Gr.steps n L t).left i (k + 1) = okK L (Gr.steps n L t).left i k from by rw [HGO.out]; simp [hy])
                clear hy
                generalize okK L (Gr.steps n L t).left i k = bb at *
                go_wp2_with fail
                go_roundw
                case rel => exact ⟨k + 1, by omega, rfl, by rw [HV.out], HW2⟩
                case measure => simp [intOf]; omega
            · have HKA := Lib.hid (show okK L (Gr.steps n L t).left i k = Gr.okAt L (Gr.steps n L t).left i from by rw [show k = L.length from by have := HN.out; omega]; exact okK_all _ _ _)
              rw [HKA.out]
              cases hok : Gr.okAt L (Gr.steps n L t).left i with
              | true =>
                have HF := Lib.hid (Gr.first_is HJ.out (by omega) (fun _ => hok))
                have hlen := steps_len (n := n) (L := L) t
                have hsz := HW.out.below.size
                clear hok
                go_wp2_with ((at_builtin; refine wpList_push _ (by rfl) _ _ 37 (by rfl) (w.heap.size + 1) 3 (.int .i64 0) 8 Tryd.underlying37 infoInt (by rfl) u5 (Gr.steps n L t).row.length _ (nat1 i) _ rfl (by rfl) HW.out.own (by rfl) (by rfl) (by unfold maxLen; omega) (by omega) (by omega) ?_; intro gg cap2 w4 hown1 hgrow1 hgb hgl; have HW3 := Lib.hid (HW.out.found hHs HF.out hin hown1 hgrow1); have d1 := (rowIs_grown HW.out.row hgrow1 (ownBlock_ne HW.out.own (by omega))).cell hin; have d2 := (rowIs_grown HW.out.row hgrow1 (ownBlock_ne HW.out.own (by omega))).frozen i; have d3 := hgrow1.size; unfold bools not' at d1; clear hown1 hgrow1 hgb))
                go_roundw
                case rel => exact ⟨t + 1, by omega, rfl, HW3⟩
                case measure => simp [intOf]; omega
              | false =>
                have HJ2 := Lib.hid (show ∀ j, j < i + 1 → Gr.okAt L (Gr.steps n L t).left j = false from fun j hj => by
                  by_cases e : j = i
                  · rw [e]; exact hok
                  · exact HJ.out j (by omega))
                clear hok
                go_wp2_with fail
                go_roundw
                case rel => exact ⟨i + 1, by omega, rfl, HJ2, HW⟩
                case measure => simp [intOf]; omega
        · have HW2 := Lib.hid (HW.out.stuck (fun j hj => HJ.out j (by omega)))
          go_wp2_with fail
          go_roundw
          case rel => exact ⟨t + 1, by omega, rfl, HW2⟩
          case measure => simp [intOf]; omega
    · obtain rfl : t = n := by omega
      have HV := Lib.hid (IsVals.own HW.out.own)
      go_wp2_with fail
      go_ret
      exact ⟨_, rfl, HV.out, HW.out.below⟩
end Go.Proofs.YtdbipmidjdhjpaaDoor
