/- Contract: the steps of slots. -/
import Derived.Test.YtfjoakhcgpckgaaBookRow
namespace Go.Proofs.Ytfjoakhcgpckgaa
open Go.ChangeShapes Go.WideShapes Go.ChangeAt Go.RowKit
set_option linter.unusedVariables false
open Bk
structure RawS (B : Nat) (L : List Sl) (j : Nat) (x : Value) (w wr : World) : Prop where
  own : wr.ownsRow B 3 1 x (2 + 2 * j) (intsB (raw (L.take j)))
  below : Below B w wr
structure StepS (B : Nat) (L : List Sl) (i : Nat) (x : Value) (w wr : World) : Prop where
  own : wr.ownsRow B 222 2 x i (stc L ((pts L).take i))
  below : Below B w wr
structure AccS (xb : Nat) (L : List Sl) (j : Nat) (t : Int) (w wr : World) : Prop where
  at' : wr.cell? ⟨xb, 0, none⟩ = some (.int .i64 t)
  n' : wr.cell? ⟨xb, 1, none⟩ = some (.int .i64 (bk (L.take j) t))
  fr : wr.frozen? ⟨xb, 1, none⟩ = false
  lt : xb < wr.heap.size
  below : Below xb w wr
theorem AccS.step {xb m : Nat} {L : List Sl} {t : Int} {w wr wx : World} {s : Sl} (h : AccS xb L m t w wr) (hs : L[m]? = some s) (hb : Below wr.heap.size wr wx) (hon : on s t = 0) : AccS xb L (m + 1) t w wx := by
  have h1 := h.lt
  refine ⟨(hb.cell (p := ⟨xb, _, none⟩) h1).trans h.at', ?_, (hb.frozen (p := ⟨xb, _, none⟩) h1).trans h.fr, Nat.lt_of_lt_of_le h1 hb.size, h.below.trans (hb.mono (Nat.le_of_lt h1))⟩
  rw [bk_take hs, hon, Int.add_zero]
  exact (hb.cell (p := ⟨xb, _, none⟩) h1).trans h.n'
theorem AccS.add {xb m : Nat} {L : List Sl} {t v : Int} {w wr wx : World} {s : Sl} (h : AccS xb L m t w wr) (hs : L[m]? = some s) (hb : Below wr.heap.size wr wx) (hon : on s t = s.n) (hv : bk (L.take m) t = v) : AccS xb L (m + 1) t w (wx.setCell ⟨xb, 1, none⟩ (.int .i64 (v + s.n))) := by
  have h1 := h.lt
  refine ⟨?_, ?_, ?_, ?_, (h.below.trans (hb.mono (Nat.le_of_lt h1))).setCell (Nat.le_refl _) _⟩
  · rw [World.cell?_setCell_other _ _ _ _ (by simp)]
    exact (hb.cell (p := ⟨xb, _, none⟩) h1).trans h.at'
  · rw [bk_take hs, hon, hv, cell_set, if_pos rfl, (hb.cell (p := ⟨xb, _, none⟩) h1).trans h.n']
    rfl
  · rw [World.frozen?_setCell]; exact (hb.frozen (p := ⟨xb, _, none⟩) h1).trans h.fr
  · have := hb.size; simp; omega
set_option maxRecDepth 20000 in
set_option maxHeartbeats 4000000 in
theorem steps_any (L : List Sl) (a : Option Addr) (n cap : Nat) (w : World) (hn : n = L.length) (hl : n ≤ 101) (hS : Sane L) (hL : Slots w a L) :
    Calls Try.prog 161 #[.slice a n cap] w fun e w' => ∃ g k cp, e = .returned (.slice (some ⟨g, 0, none⟩) k cp) ∧ Steps w' g k cp L ∧ Below w.heap.size w w' := by
  have HN := Lib.hid hn
  have HS := Lib.hid hS
  have HL := Lib.hid hL
  obtain ⟨B, hB⟩ : ∃ B, B = w.heap.size := ⟨_, rfl⟩
  have HB0 := Lib.hid hB
  clear hn hS hL
  go_enter Try.func161, Try.ntmps161
  go_upto_region 2 with fail
  obtain ⟨W1, hW1⟩ : ∃ W, W = w.alloc (.cells #[.int .i64 0, .int .i64 1000000] 3) := ⟨_, rfl⟩
  have HR0 : Hid (RawS B L 0 (.slice (some ⟨B, 0, none⟩) 2 2) w W1) := Lib.hid (by
    rw [hW1, hB]
    exact ⟨built2 w _ _ _, (Below.refl _ _).alloc (Nat.le_refl _) _⟩)
  rw [← hW1, ← hB]
  clear hW1 hB
  go_wp2_with fail
  go_loopg [3, 15] n (fun gk x y wr => ∃ j : Nat, j + gk = n ∧ y = .int .i64 (j : Int) ∧ Hid (RawS B L j x w wr))
  case atStart => exact ⟨0, by omega, rfl, HR0⟩
  case round =>
    clear HR0
    obtain ⟨j, hj, rfl, HR⟩ := hrel
    have hszr : B ≤ wr.heap.size := by have := HR.out.below.size; have := HB0.out; omega
    by_cases hjn : j < n
    · obtain ⟨s, hs⟩ : ∃ s, L[j]? = some s := ⟨_, List.getElem?_eq_getElem (by have := HN.out; omega)⟩
      obtain ⟨b, off, rfl, hb, hat⟩ := HL.out (by have := HN.out; omega)
      obtain ⟨q0, q1, q2⟩ := (hat.below HR.out.below (by have := HB0.out; omega)) j s hs
      have hbr : b < wr.heap.size := by have := HB0.out; omega
      have HX := Lib.hid hs
      have hj1 : (0 : Int) ≤ (j : Int) := by omega
      have hj2 : (j : Int) < (n : Int) := by omega
      clear hat hs
      go_upto_region 5 with fail
      obtain ⟨W2, hW2⟩ : ∃ W, W = wr.alloc (.cells #[.int .i64 s.fr, .int .i64 s.to, .int .i64 s.n] 130) := ⟨_, rfl⟩
      rw [← hW2]
      obtain ⟨c, hc⟩ : ∃ c, c = wr.heap.size := ⟨_, rfl⟩
      have d0 : W2.cell? ⟨c, 0, none⟩ = some (.int .i64 s.fr) := by rw [hW2, hc]; simp
      have d1 : W2.cell? ⟨c, 1, none⟩ = some (.int .i64 s.to) := by rw [hW2, hc]; simp
      have l0 : c < W2.heap.size := by rw [hW2, hc]; simp
      have HB2 : Hid (Below B w W2) := Lib.hid (by rw [hW2]; exact HR.out.below.alloc hszr _)
      have HO2 : Hid (W2.ownsRow B 3 1 u3 (2 + 2 * j) (intsB (raw (L.take j)))) := Lib.hid (by rw [hW2]; exact HR.out.own.alloc _)
      have hsz2 : B ≤ W2.heap.size := by omega
      rw [← hc]
      clear hW2 hc q0 q1 q2
      go_wp2_with (at_builtin; go_loud (refine wpList_push2 W2 (by rfl) _ _ 58 (by rfl) B 3 (.int .i64 0) 8 Try.underlying58 infoIntB (by rfl) u3 (2 + 2 * j) (intsB (raw (L.take j))) (.int .i64 s.fr) (.int .i64 s.to) _ rfl (by rfl) HO2.out (by rfl) (by rfl) (by rfl) (by unfold maxLen; omega) (by omega) hsz2 ?_; intro gg cap3 w3 hown hgrow hgb hgl; have HW3 : Hid (RawS B L (j + 1) (.slice (some ⟨gg, 0, none⟩) (2 + 2 * j + 2) cap3) w w3) := Lib.hid (⟨(by rw [raw_take HX.out, intsB_push2]; exact hown), HB2.out.grown hgrow hsz2 (ownBlock_ge HO2.out (Nat.le_refl _))⟩); clear hown hgrow hgb))
      go_roundg (n - (j + 1))
      case measure => omega
      case rel => exact ⟨j + 1, by omega, by simp, HW3⟩
    · obtain rfl : j = n := by omega
      obtain ⟨g, cp, hf, hg1⟩ := HR.out.own.form (by omega)
      subst hf
      have HRW : Hid (raw (L.take j) = raw L) := Lib.hid (by rw [HN.out, List.take_length])
      have HO1 : Hid (wr.ownsRow B 3 1 (.slice (some ⟨g, 0, none⟩) (2 + 2 * j) cp) (2 + 2 * j) (intsB (raw L))) := Lib.hid (by rw [← HRW.out]; exact HR.out.own)
      have HBR := Lib.hid HR.out.below
      have HG := Lib.hid (HO1.out.lt g rfl)
      clear HR hg1
      go_wp2_with (first
        | (go_at_call 205; refine Calls.mono (sortRaw L j B g cp wr HN.out hl HO1.out) ?_; rintro e w2 ⟨rfl, h1, h2⟩; have HO2 := Lib.hid h1; have HB2 := Lib.hid (HBR.out.grown h2 hszr (fun k hk => by cases hk; exact HG.out.1)); clear h1 h2)
        | (go_at_call 206; refine Calls.mono (compactRaw L j B g cp w2 HN.out hl HS.out HO2.out) ?_; rintro e w3 ⟨k, rfl, h1, h2, h3, h4, h5, h6, h7⟩; have HK := Lib.hid h1; have HC := Lib.hid h6; have HB3 := Lib.hid (HB2.out.grown h7 (by have := HB2.out.size; have := HB0.out; omega) (fun k hk => by cases hk; exact HG.out.1)); clear h1 h6 h7))
      obtain ⟨B2, hB2⟩ : ∃ B2, B2 = w3.heap.size := ⟨_, rfl⟩
      have HBB := Lib.hid hB2
      have HT0 : Hid (StepS B2 L 0 (.slice none 0 0) w3 w3) := Lib.hid ⟨World.ownsRow_nil _ _ _ _, Below.refl _ _⟩
      have hgB : g < B2 := by omega
      clear hB2 HO1 HO2 HB2 HRW HBR
      go_loopg [6, 32] k (fun gk x y wr => ∃ i : Nat, i + gk = k ∧ y = .int .i64 (i : Int) ∧ Hid (StepS B2 L i x w3 wr))
      case atStart => exact ⟨0, by omega, rfl, HT0⟩
      case round =>
        clear HT0
        obtain ⟨i, hi, rfl, HT⟩ := hrel
        have hszr : B2 ≤ wr.heap.size := by have := HT.out.below.size; have := HBB.out; omega
        by_cases hik : i < k
        · obtain ⟨t, ht⟩ : ∃ t, (pts L)[i]? = some t := ⟨_, List.getElem?_eq_getElem (by have := HK.out; omega)⟩
          have q0 := (HT.out.below.cell (p := ⟨g, i, none⟩) hgB).trans (HC.out i t ht)
          have lg : g < wr.heap.size := by omega
          have HX := Lib.hid ht
          have hj1 : (0 : Int) ≤ (i : Int) := by omega
          have hj2 : (i : Int) < (k : Int) := by omega
          obtain ⟨gq', rfl⟩ : ∃ q, q = gk := ⟨_, rfl⟩
          clear ht
          go_upto_region 13 with fail
          obtain ⟨W2, hW2⟩ : ∃ W, W = wr.alloc (.cells #[.int .i64 t, .int .i64 0] 222) := ⟨_, rfl⟩
          rw [← hW2]
          obtain ⟨xb, hxb⟩ : ∃ c, c = wr.heap.size := ⟨_, rfl⟩
          have HA0 : Hid (AccS xb L 0 t wr W2) := Lib.hid ⟨by rw [hW2, hxb]; simp, by rw [hW2, hxb]; simp [bk], by rw [hW2, hxb]; simp, by rw [hW2, hxb]; simp, by rw [hW2, hxb]; exact (Below.refl _ _).alloc (Nat.le_refl _) _⟩
          have HXB := Lib.hid hxb
          rw [← hxb]
          clear hW2 hxb q0
          go_wp2_with fail
          go_loopg [40] j (fun q x wx => ∃ m : Nat, m + q = j ∧ x = .int .i64 (m : Int) ∧ Hid (AccS xb L m t wr wx))
          case atStart => exact ⟨0, by omega, rfl, HA0⟩
          case round =>
            clear HA0
            obtain ⟨m, hm, rfl, HA⟩ := hrel
            by_cases hmj : m < j
            · obtain ⟨s, hs⟩ : ∃ s, L[m]? = some s := ⟨_, List.getElem?_eq_getElem (by have := HN.out; omega)⟩
              obtain ⟨b, off, rfl, hb, hat⟩ := HL.out (by have := HN.out; omega)
              have hBx : Below B w wr := (HB3.out.trans (HT.out.below.mono (by have := HB3.out.size; have := HBB.out; have := HB0.out; omega))).trans (HA.out.below.mono (by have := HXB.out; have := HB3.out.size; have := HBB.out; have := HB0.out; omega))
              obtain ⟨q0, q1, q2⟩ := (hat.below hBx (by have := HB0.out; omega)) m s hs
              have hbr : b < wr.heap.size := by have := HB0.out; have := hBx.size; omega
              have HY := Lib.hid hs
              have hm1 : (0 : Int) ≤ (m : Int) := by omega
              have hm2 : (m : Int) < (j : Int) := by omega
              clear hat hBx hs
              go_upto_region 16 with fail
              obtain ⟨W4, hW4⟩ : ∃ W, W = wr.alloc (.cells #[.int .i64 s.fr, .int .i64 s.to, .int .i64 s.n] 130) := ⟨_, rfl⟩
              rw [← hW4]
              obtain ⟨c, hc⟩ : ∃ c, c = wr.heap.size := ⟨_, rfl⟩
              have HB4 : Hid (Below wr.heap.size wr W4) := Lib.hid (by rw [hW4]; exact (Below.refl _ _).alloc (Nat.le_refl _) _)
              have d0 : W4.cell? ⟨c, 0, none⟩ = some (.int .i64 s.fr) := by rw [hW4, hc]; simp
              have d1 : W4.cell? ⟨c, 1, none⟩ = some (.int .i64 s.to) := by rw [hW4, hc]; simp
              have d2 : W4.cell? ⟨c, 2, none⟩ = some (.int .i64 s.n) := by rw [hW4, hc]; simp
              have l0 : c < W4.heap.size := by rw [hW4, hc]; simp
              have e0 := (HB4.out.cell (p := ⟨xb, 0, none⟩) HA.out.lt).trans HA.out.at'
              have e1 := (HB4.out.cell (p := ⟨xb, 1, none⟩) HA.out.lt).trans HA.out.n'
              have e2 := (HB4.out.frozen (p := ⟨xb, 1, none⟩) HA.out.lt).trans HA.out.fr
              have l1 : xb < W4.heap.size := Nat.lt_of_lt_of_le HA.out.lt HB4.out.size
              obtain ⟨v, hv⟩ : ∃ v, bk (L.take m) t = v := ⟨_, rfl⟩
              have hvb := bk_small HS.out (by have := HN.out; omega) m t
              rw [hv] at e1 hvb
              have hsb := (HS.out.at' HY.out).2.2.2
              have HV := Lib.hid hv
              rw [← hc]
              clear hW4 hc q0 q1 q2 hv
              by_cases hon1 : s.fr ≤ t
              · by_cases hon2 : t < s.to
                · have HQ := Lib.hid (HA.out.add HY.out HB4.out (show on s t = s.n from if_pos ⟨hon1, hon2⟩) HV.out)
                  have hw : IntKind.i64.wrap (v + s.n) = v + s.n := IntWalk.i64_in _ (by omega)
                  go_wp2_with fail
                  go_roundg (j - (m + 1))
                  case measure => omega
                  case rel => exact ⟨m + 1, by omega, by simp, HQ⟩
                · have HQ := Lib.hid (HA.out.step HY.out HB4.out (show on s t = 0 from if_neg (fun h => hon2 h.2)))
                  go_wp2_with fail
                  go_roundg (j - (m + 1))
                  case measure => omega
                  case rel => exact ⟨m + 1, by omega, by simp, HQ⟩
              · have HQ := Lib.hid (HA.out.step HY.out HB4.out (show on s t = 0 from if_neg (fun h => hon1 h.1)))
                go_wp2_with fail
                go_roundg (j - (m + 1))
                case measure => omega
                case rel => exact ⟨m + 1, by omega, by simp, HQ⟩
            · obtain rfl : m = j := by omega
              have HTK : Hid (L.take m = L) := Lib.hid (by rw [HN.out, List.take_length])
              have e0 := HA.out.at'
              have e1 := HA.out.n'
              have l1 := HA.out.lt
              obtain ⟨v, hv⟩ : ∃ v, bk L t = v := ⟨_, rfl⟩
              rw [HTK.out, hv] at e1
              have HV := Lib.hid hv
              have HOW : Hid (wr.ownsRow B2 222 2 u6 i (stc L ((pts L).take i))) := Lib.hid (ownsRow_below HT.out.own (by rw [← HXB.out]; exact HA.out.below))
              have HBW : Hid (Below B2 w3 wr) := Lib.hid (HT.out.below.trans (HA.out.below.mono (by have := HXB.out; omega)))
              have hszx : B2 ≤ wr.heap.size := by have := HA.out.below.size; omega
              have HPT : Hid (stc L ((pts L).take (i + 1)) = stc L ((pts L).take i) ++ [.int .i64 t, .int .i64 v]) := Lib.hid (by rw [List.take_add_one, HX.out, ← HV.out]; exact stc_push L _ t)
              have hmi : i ≤ 300 := by omega
              clear hv HA HT
              go_wp2_with (at_builtin; go_loud (refine wpList_pushN wr (by rfl) _ _ 219 (by rfl) B2 222 (.agg #[.int .i64 0, .int .i64 0]) 2 16 Try.underlying219 infoStep (by rfl) (by decide) u6 i (stc L ((pts L).take i)) [.int .i64 t, .int .i64 v] _ rfl (by rfl) HOW.out (by rfl) (by rfl) (by intro u hu; simp at hu; rcases hu with rfl | rfl <;> rfl) (by unfold maxLen; omega) (by omega) hszx ?_; intro gg cap3 w5 hown hgrow hgb hgl; have HW5 : Hid (StepS B2 L (i + 1) (.slice (some ⟨gg, 0, none⟩) (i + 1) cap3) w3 w5) := Lib.hid (⟨(by rw [HPT.out]; exact hown), HBW.out.grown hgrow hszx (ownBlock_ge HOW.out (Nat.le_refl _))⟩); clear hown hgrow hgb))
              go_roundg (k - (i + 1))
              case measure => omega
              case rel => exact ⟨i + 1, by omega, by simp, HW5⟩
        · obtain rfl : i = k := by omega
          have HTK : Hid ((pts L).take i = pts L) := Lib.hid (by rw [HK.out, List.take_length])
          obtain ⟨g2, cp2, hf, hg1⟩ := HT.out.own.form (by omega)
          subst hf
          have HE : Hid (Steps wr g2 i cp2 L) := Lib.hid (by
            have hml : maxLen = 9223372036854775807 := rfl
            rcases HT.out.own.2 with ⟨h0, _⟩ | ⟨g', cap', cur, hv, _, _, h1, h2, _, _⟩
            · cases h0
            cases hv
            refine ⟨HK.out, ⟨h1, by omega⟩, ⟨by omega, by omega⟩, (HT.out.own.lt g2 rfl).2, fun q p hq => ?_⟩
            have hql : q < i := by rw [HK.out]; exact (List.getElem?_eq_some_iff.1 hq).1
            obtain ⟨s1, s2⟩ := stc_at (L := L) hq
            rw [HT.out.own.cellAt (q * 2) (by omega), HT.out.own.cellAt (q * 2 + 1) (by omega), HTK.out]
            exact ⟨s1, s2⟩)
          have HBE : Hid (Below B w wr) := Lib.hid (HB3.out.trans (HT.out.below.mono (by have := HB3.out.size; have := HBB.out; have := HB0.out; omega)))
          clear HT hg1
          go_wp2_with fail
          go_ret
          exact ⟨g2, i, cp2, rfl, HE.out, by rw [← HB0.out]; exact HBE.out⟩
end Go.Proofs.Ytfjoakhcgpckgaa
