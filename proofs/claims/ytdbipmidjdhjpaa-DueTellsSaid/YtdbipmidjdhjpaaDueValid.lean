/- Contract: is a row of work a good one? The program's. -/
import Derived.Test.YtdbipmidjdhjpaaDueCalls
import Derived.Test.YtdbipmidjdhjpaaDueRow
namespace Go.Proofs.Ytdbipmidjdhjpaa
open Go.ChangeShapes Go.WideShapes Go.ChangeAt Go.RowKit
set_option linter.unusedVariables false
structure ValW (L : Tk) (R : List Int) (n H j : Nat) (w wr : World) : Prop where
  left : wr.rowIs H 3 n (fun i => .int .i64 (tN L i - ((R.take j).count (i : Int) : Int)))
  slots : ∀ (t : Nat) (v : Int), t < j → R[t]? = some v → slotOk L t v = true
  below : Below H w wr
structure ValI (L : Tk) (n H k : Nat) (w wr : World) : Prop where
  left : wr.rowIs H 3 n (fun i => .int .i64 (if i < k then tN L i else 0))
  below : Below H w wr
theorem lenOk_tk {L : Tk} {R : List Int} {i : Nat} (h : i < L.length) : lenOk L R i = decide (((R.count (i : Int) : Nat) : Int) = tN L i) := by
  obtain ⟨⟨x, y, z⟩, hx⟩ : ∃ x, L[i]? = some x := ⟨_, List.getElem?_eq_getElem h⟩
  rw [(tk_at hx).2.2]
  simp [lenOk, hx]
theorem goodRow_slot {L : Tk} {R : List Int} {j : Nat} {v : Int} (hv : R[j]? = some v) (h : slotOk L j v = false) : goodRow L R = false := by
  cases hg : goodRow L R with
  | false => rfl
  | true =>
    simp only [goodRow, Bool.and_eq_true, List.all_eq_true] at hg
    have := hg.2 j (by have := (List.getElem?_eq_some_iff.1 hv).1; simpa using this)
    rw [hv] at this
    simp [h] at this
theorem goodRow_len {L : Tk} {R : List Int} {i : Nat} (hi : i < L.length) (h : ((R.count (i : Int) : Nat) : Int) ≠ tN L i) : goodRow L R = false := by
  have h2 : ((List.range L.length).all fun i => lenOk L R i) = false := by
    rw [List.all_eq_false]
    exact ⟨i, by simpa using hi, by rw [lenOk_tk hi]; simpa using h⟩
  simp [goodRow, h2]
theorem goodRow_yes {L : Tk} {R : List Int} (h0 : R.length = 200) (h1 : ∀ (t : Nat) (v : Int), t < 200 → R[t]? = some v → slotOk L t v = true) (h2 : ∀ i : Nat, i < L.length → ((R.count (i : Int) : Nat) : Int) = tN L i) : goodRow L R = true := by
  simp only [goodRow, Bool.and_eq_true, List.all_eq_true, decide_eq_true_eq]
  refine ⟨⟨h0, fun i hi => ?_⟩, fun t ht => ?_⟩
  · have := List.mem_range.1 hi
    rw [lenOk_tk this]; simpa using h2 i this
  · have htl := List.mem_range.1 ht
    have hv : R[t]? = some R[t] := List.getElem?_eq_getElem htl
    rw [hv]
    exact h1 t _ (by omega) hv
theorem ValW.put {L : Tk} {R : List Int} {n H j vn : Nat} {w wr : World} (h : ValW L R n H j w wr) (hv : R[j]? = some (vn : Int)) (hs : slotOk L j vn = true) :
    ValW L R n H (j + 1) w (wr.setCell ⟨H, vn, none⟩ (.int .i64 (tN L vn - ((R.take j).count (vn : Int) : Int) - 1))) := by
  refine ⟨(h.left.set vn _).congr fun i hi => ?_, fun t v ht htv => ?_, h.below.setCell (Nat.le_refl _) _⟩
  · rw [count_take hv]
    by_cases e : i = vn
    · subst e; simp; omega
    · have : ¬ (vn : Int) = (i : Int) := by omega
      simp [e, this]
  · by_cases e : t = j
    · subst e
      rw [hv] at htv
      obtain rfl := Option.some.inj htv
      exact hs
    · exact h.slots t v (by omega) htv
theorem ValW.skip {L : Tk} {R : List Int} {n H j : Nat} {w wr : World} (h : ValW L R n H j w wr) (hv : R[j]? = some (-1)) : ValW L R n H (j + 1) w wr := by
  refine ⟨h.left.congr fun i hi => ?_, fun t v ht htv => ?_, h.below⟩
  · have : ¬ (-1 : Int) = (i : Int) := by omega
    rw [count_take hv]; simp [this]
  · by_cases e : t = j
    · subst e
      rw [hv] at htv
      obtain rfl := Option.some.inj htv
      simp [slotOk]
    · exact h.slots t v (by omega) htv
theorem Valid_bad (L : Tk) (s s2 : Option Addr) (n cap r cap2 : Nat) (w : World) (hn : n = L.length) (hmax : n ≤ 9223372036854775807) (hL : Needs w s L) (hb : (tasksE L != 0) = true) :
    Calls Try.prog 41 #[.slice s n cap, .slice s2 r cap2] w fun e w' => e = .returned (.tuple #[.bool false, .int .i64 (tasksE L)]) ∧ Below w.heap.size w w' := by
  have HL := Lib.hid hL
  have HN := Lib.hid hn
  clear hL hn
  go_enter Try.func41, Try.ntmps41
  go_wp2_with (go_at_call 44; refine Calls.mono (dCheck_any L _ _ _ _ HN.out hmax HL.out) ?_; rintro e w1 ⟨rfl, hB1⟩)
  go_ret2
  exact ⟨rfl, hB1⟩
set_option maxRecDepth 20000 in
set_option maxHeartbeats 4000000 in
theorem Valid_good (L : Tk) (R : List Int) (s s2 : Option Addr) (n cap r cap2 : Nat) (w : World) (hn : n = L.length) (hL : Needs w s L) (hb : tasksE L = 0) (hr : r = R.length) (hmax2 : r ≤ 9223372036854775807) (hR : Ints w s2 R) :
    Calls Try.prog 41 #[.slice s n cap, .slice s2 r cap2] w fun e w' => e = .returned (.tuple #[.bool (goodRow L R), .int .i64 0]) ∧ Below w.heap.size w w' := by
  have HL := Lib.hid hL
  have HN := Lib.hid hn
  have HE := Lib.hid hb
  have HR := Lib.hid hR
  have HRN := Lib.hid hr
  have hmax : n ≤ 20 := by have := (tasksE_good hb).1; omega
  have HO := Lib.hid (okT (tasksE_good hb).2)
  clear hL hn hb hR hr
  by_cases h200 : r = 200
  · subst h200
    have hmk1 := run_make_row' (P := Try.prog) 24 3 (.int .i64 0) 8 Try.underlying24 infoInt rfl .i64 .i64 n (by omega) (by omega)
    go_enter Try.func41, Try.ntmps41
    go_wp2_with (go_at_call 44; refine Calls.mono (dCheck_any L _ _ _ _ HN.out (by omega) HL.out) ?_; rintro e w1 ⟨rfl, hB1⟩; rw [HE.out]; have HB1 := Lib.hid hB1; clear hB1)
    clear hmk1
    have hsz1 := HB1.out.size
    go_loopw [27] (fun x wr => ∃ k : Nat, k ≤ n ∧ x = .int .i64 k ∧ Hid (ValI L n w1.heap.size k w1 wr)) (fun x _ => n - (intOf x).toNat)
    case atStart => exact ⟨0, by omega, rfl, Lib.hid ⟨(rowIs_made_at _ _ _ _ rfl).congr fun i hi => rfl, by go_grown⟩⟩
    case round =>
      obtain ⟨k, hk, rfl, HI⟩ := hrel
      by_cases hkn : k < n
      · obtain ⟨b, off, rfl, hb, hat⟩ := HL.out (by have := HN.out; omega)
        obtain ⟨⟨c, m, g⟩, hx⟩ : ∃ x, L[k]? = some x := ⟨_, List.getElem?_eq_getElem (by have := HN.out; omega)⟩
        obtain ⟨q0, q1, q2⟩ := (hat.below HB1.out hb).below HI.out.below (by omega) k c m g hx
        have hcl := HI.out.left.cell hkn
        have hfl := HI.out.left.frozen k
        have hHs := HI.out.left.lt
        have hbr : b < wr.heap.size := by omega
        have HX := Lib.hid (tk_at hx).2.2
        clear hat hx
        go_wp2_with fail
        go_roundw
        case rel =>
          refine ⟨k + 1, by omega, rfl, Lib.hid ⟨?_, ?_⟩⟩
          · refine ((HI.out.left.set k _).alloc _).congr fun i hi => ?_
            by_cases e : i = k
            · subst e; simp [HX.out]
            · have : (i < k + 1) = (i < k) := by simp; omega
              simp only [e, if_false, this]
          · have := HI.out.below; go_grown
        case measure => simp [intOf]; omega
      · obtain rfl : n = k := by omega
        have HV := Lib.hid (show ValW L R n w1.heap.size 0 w1 wr from ⟨HI.out.left.congr fun i hi => by simp [hi], fun t v ht => absurd ht (by omega), HI.out.below⟩)
        clear HI
        go_wp2_with fail
        go_loopw [40] (fun x wx => ∃ j : Nat, j ≤ 200 ∧ x = .int .i64 j ∧ Hid (ValW L R n w1.heap.size j w1 wx)) (fun x _ => 200 - (intOf x).toNat)
        case atStart => exact ⟨0, by omega, rfl, HV⟩
        case round =>
          clear HV
          obtain ⟨j, hj, rfl, HV⟩ := hrel
          by_cases hj2 : j < 200
          · obtain ⟨b2, off2, e2, hb2, hat2⟩ := HR.out (by have := HRN.out; omega)
            subst e2
            obtain ⟨v, hv⟩ : ∃ v, R[j]? = some v := ⟨_, List.getElem?_eq_getElem (by have := HRN.out; omega)⟩
            have p0 := (hat2.below HB1.out hb2).below HV.out.below (by omega) j v hv
            have hHs := HV.out.left.lt
            have hbr2 : b2 < wr.heap.size := by omega
            have HVV := Lib.hid hv
            have HBW := Lib.hid (show Below w.heap.size w wr from HB1.out.trans (HV.out.below.mono hsz1))
            clear hat2 hv
            by_cases hm1 : v = -1
            · subst hm1
              have HV2 := Lib.hid (HV.out.skip HVV.out)
              go_wp2_with fail
              go_roundw
              case rel => exact ⟨j + 1, by omega, rfl, HV2⟩
              case measure => simp [intOf]; omega
            · have hvb1 : (v == -1) = false := by simp [hm1]
              by_cases hv0 : v < 0
              · have HF : Hid (false = goodRow L R) := Lib.hid (goodRow_slot HVV.out (by simp [slotOk, hm1]; omega)).symm
                go_wp2_with fail
                go_ret2
                exact ⟨ret_bi HF.out rfl, HBW.out⟩
              · obtain ⟨vn, rfl⟩ := Int.eq_ofNat_of_zero_le (show 0 ≤ v by omega)
                by_cases hvn : vn < n
                · obtain ⟨b, off, e1, hb, hat⟩ := HL.out (by have := HN.out; omega)
                  subst e1
                  obtain ⟨⟨c, m, g⟩, hx⟩ : ∃ x, L[vn]? = some x := ⟨_, List.getElem?_eq_getElem (by have := HN.out; omega)⟩
                  obtain ⟨q0, q1, q2⟩ := (hat.below HB1.out hb).below HV.out.below (by omega) vn c m g hx
                  have hbr : b < wr.heap.size := by omega
                  have HSL := Lib.hid (show slotOk L j (vn : Int) = decide (c ≤ (j : Int) ∧ (j : Int) < m) from by
                    have : ¬ ((vn : Int) = -1) := by omega
                    simp [slotOk, hx, this])
                  have hcl := HV.out.left.cell hvn
                  have hfl := HV.out.left.frozen vn
                  have htn := (HO.out vn (by have := HN.out; omega)).2.2.2.2.1
                  have htn0 := (HO.out vn (by have := HN.out; omega)).2.2.2.1
                  have hcc : (R.take j).count (vn : Int) ≤ 200 := by
                    have := List.count_le_length (a := (vn : Int)) (l := R.take j)
                    simp at this; omega
                  have HPUT := Lib.hid (HV.out.put HVV.out)
                  have HQ : Hid (∃ q : Int, q = tN L vn - ((R.take j).count (vn : Int) : Int) ∧ -200 ≤ q ∧ q ≤ 200) := Lib.hid ⟨_, rfl, by omega, by omega⟩
                  clear hat hx hm1 hv0 htn htn0 hcc
                  obtain ⟨q, hq, hq0, hq1⟩ := HQ.out
                  rw [← hq] at hcl
                  have HQE := Lib.hid hq
                  clear hq
                  by_cases k1 : (j : Int) < c
                  · have HF : Hid (false = goodRow L R) := Lib.hid (goodRow_slot HVV.out (by rw [HSL.out]; simp; omega)).symm
                    go_wp2_with fail
                    go_ret2
                    exact ⟨ret_bi HF.out rfl, HBW.out⟩
                  · by_cases k2 : m ≤ (j : Int)
                    · have HF : Hid (false = goodRow L R) := Lib.hid (goodRow_slot HVV.out (by rw [HSL.out]; simp; omega)).symm
                      go_wp2_with fail
                      go_ret2
                      exact ⟨ret_bi HF.out rfl, HBW.out⟩
                    · have HS2 := Lib.hid (HPUT.out (by rw [HSL.out]; simp; omega))
                      go_wp2_with fail
                      go_roundw
                      case rel => exact ⟨j + 1, by omega, rfl, by rw [HQE.out]; exact HS2⟩
                      case measure => simp [intOf]; omega
                · have HF : Hid (false = goodRow L R) := Lib.hid (goodRow_slot HVV.out (by
                    have : L[vn]? = none := List.getElem?_eq_none (by have := HN.out; omega)
                    have h1 : ¬ ((vn : Int) = -1) := by omega
                    simp [slotOk, this, h1])).symm
                  clear hm1 hv0
                  go_wp2_with fail
                  go_ret2
                  exact ⟨ret_bi HF.out rfl, HBW.out⟩
          · obtain rfl : j = 200 := by omega
            obtain ⟨wo, rfl⟩ : ∃ wo : World, wo = wr := ⟨_, rfl⟩
            have HBW := Lib.hid (show Below w.heap.size w wo from HB1.out.trans (HV.out.below.mono hsz1))
            go_wp2_with fail
            go_loop [84] (fun x => ∃ i : Nat, i ≤ n ∧ x = .int .i64 i ∧ Hid (∀ k, k < i → ((R.count (k : Int) : Nat) : Int) = tN L k)) (fun x => n - (intOf x).toNat)
            case atStart => exact ⟨0, by omega, rfl, Lib.hid fun k hk => absurd hk (by omega)⟩
            case round =>
              obtain ⟨i, hi, rfl, HJ⟩ := hrel
              by_cases hin : i < n
              · have hcl := HV.out.left.cell hin
                have hHs := HV.out.left.lt
                rw [List.take_of_length_le (by have := HRN.out; omega)] at hcl
                have HNO := Lib.hid (show ((R.count (i : Int) : Nat) : Int) ≠ tN L i → false = goodRow L R from fun h => (goodRow_len (by have := HN.out; omega) h).symm)
                have HYES := Lib.hid (show ((R.count (i : Int) : Nat) : Int) = tN L i → ∀ k, k < i + 1 → ((R.count (k : Int) : Nat) : Int) = tN L k from fun h k hk => by
                  by_cases e : k = i
                  · subst e; exact h
                  · exact HJ.out k (by omega))
                obtain ⟨q, hq⟩ : ∃ q : Int, q = tN L i - ((R.count (i : Int) : Nat) : Int) := ⟨_, rfl⟩
                rw [← hq] at hcl
                have HQ := Lib.hid hq
                clear hq
                by_cases h0 : q = 0
                · subst h0
                  have HJ2 := Lib.hid (HYES.out (by have := HQ.out; omega))
                  go_wp2_with fail
                  go_round
                  case rel => exact ⟨i + 1, by omega, rfl, HJ2⟩
                  case measure => simp [intOf]; omega
                · have hqb : (q != 0) = true := by simp [h0]
                  have HF := Lib.hid (HNO.out (by have := HQ.out; omega))
                  go_wp2_with fail
                  go_ret2
                  exact ⟨ret_bi HF.out rfl, HBW.out⟩
              · have HF := Lib.hid (goodRow_yes (by have := HRN.out; omega) HV.out.slots (fun i' hi' => HJ.out i' (by have := HN.out; omega))).symm
                go_wp2_with fail
                go_ret2
                exact ⟨ret_bi HF.out rfl, HBW.out⟩
  · have HF := Lib.hid (show goodRow L R = false from by
      have : ¬ R.length = 200 := by have := HRN.out; omega
      simp [goodRow, this]).symm
    have hb : ((r : Int) != 200) = true := by simp; omega
    go_enter Try.func41, Try.ntmps41
    go_wp2_with (go_at_call 44; refine Calls.mono (dCheck_any L _ _ _ _ HN.out (by omega) HL.out) ?_; rintro e w1 ⟨rfl, hB1⟩; rw [HE.out])
    go_ret2
    exact ⟨ret_bi HF.out rfl, hB1⟩
end Go.Proofs.Ytdbipmidjdhjpaa
