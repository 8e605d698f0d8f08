/- Contract: the document's split of a share. -/
import Derived.Test.YtfjoakhcgpckgaaShareRef
namespace Go.Proofs.Ytfjoakhcgpckgaa
open Go.ChangeShapes Go.WideShapes Go.ChangeAt Go.RowKit
set_option linter.unusedVariables false
open Sh
theorem parts_at (v : Int) : ∀ (D : List Int) (left : Int) (q : Nat) (x : Int), D[q]? = some x → (Sh.parts v D left)[q]? = some (Sh.part v x (Sh.leftOf v (D.take q) left))
  | [], left, q, x, h => by simp at h
  | y :: D, left, 0, x, h => by
    simp at h
    subst h
    simp [Sh.parts, Sh.leftOf]
  | y :: D, left, q + 1, x, h => by
    have := parts_at v D (Sh.leftB v y left) q x (by simpa using h)
    simpa [Sh.parts, Sh.leftOf] using this
def f1 (D : List Int) (v : Int) (q j : Nat) : Value := .int .i64 (if j < q then min (D.getD j 0) v else 0)
def f2 (D : List Int) (v left0 : Int) (q j : Nat) : Value := .int .i64 (if j < q then (Sh.parts v D left0).getD j 0 else min (D.getD j 0) v)
theorem f1_all (D : List Int) (v left0 : Int) {n j : Nat} (h : j < n) : f1 D v n j = f2 D v left0 0 j := by unfold f1 f2; rw [if_pos h, if_neg (by omega)]
theorem getD_at {D : List Int} {q : Nat} {x : Int} (h : D[q]? = some x) : D.getD q 0 = x := by rw [List.getD_eq_getElem?_getD, h]; rfl
set_option maxRecDepth 20000 in
set_option maxHeartbeats 1600000 in
theorem rSplit_any (all : Int) (D : List Int) (a : Option Addr) (n cap : Nat) (w : World) (hall : 0 ≤ all) (hall2 : all ≤ 1099511627776) (hn : n = D.length) (h4 : n ≤ 100) (hD : Vals w a (ints64 D)) (hok : ∀ x, x ∈ D → 0 ≤ x ∧ x ≤ m40) :
    Calls Try.prog 80 #[.int .i64 all, .slice a n cap] w fun e w' => ∃ v vo, e = .returned vo ∧ Lv all D v ∧ IsVals w' vo (ints64 (Sh.parts v D (all - up D v))) ∧ Below w.heap.size w w' := by
  have HD := Lib.hid hD
  have HN := Lib.hid hn
  have HO := Lib.hid hok
  have HL := Lib.hid (rLevel_any all D a n cap w hall hn h4 hD hok)
  have hmk := run_make_row' (P := Try.prog) 36 2 (.int .i64 0) 8 Try.underlying36 infoI64 rfl .i64 .i64 n (by omega) (by omega)
  obtain ⟨W1, hW1⟩ : ∃ W, W = w.alloc (.cells (madeCells #[.int .i64 0] n) 2) := ⟨_, rfl⟩
  obtain ⟨gb, hgb⟩ : ∃ gb, gb = w.heap.size := ⟨_, rfl⟩
  have HR0 : Hid (∀ v, W1.rowIs gb 2 n (f1 D v 0)) := Lib.hid (fun v => by
    rw [hW1, hgb]
    exact (rowIs_made_at w (.int .i64 0) n 2 rfl).congr fun j hj => (by unfold f1; rw [if_neg (by omega)]))
  have HB1 := Lib.hid (show Below gb w W1 from by rw [hW1, hgb]; exact (Below.refl _ _).alloc (Nat.le_refl _) _)
  have HGB := Lib.hid hgb
  clear hD hn hok
  go_enter Try.func80, Try.ntmps80
  go_upto_region 3 with (go_at_call 78; refine Calls.mono HL.out ?_; rintro e w0 ⟨v, rfl, hlv, hw0⟩; obtain rfl := hw0.symm; have HLV := Lib.hid hlv; clear hlv)
  rw [← hW1, ← hgb]
  clear hmk hW1 hgb
  have hv0 : 0 ≤ v := HLV.out.lo
  have hv1 : v ≤ 1099511627776 := HLV.out.hi
  have HS0 : Hid (all = all - up (D.take 0) v) := Lib.hid (by simp [up])
  obtain ⟨all0, hall0⟩ : ∃ x, x = all := ⟨_, rfl⟩
  have HA0 := Lib.hid hall0
  have HUB : Hid (∀ q, 0 ≤ up (D.take q) v ∧ up (D.take q) v ≤ 109951162777600) := Lib.hid (fun q => by
    have h1 := up_bound (take_ok HO.out q) hv0
    have h2 : ((D.take q).length : Int) ≤ 100 := by rw [List.length_take]; have := HN.out; omega
    simp only [m40] at h1
    omega)
  go_wp2_with fail
  go_loopg [0, 19] n (fun gk y x wr => ∃ (q : Nat) (s : Int), q + gk = n ∧ x = .int .i64 (q : Int) ∧ y = .int .i64 s ∧ Hid (s = all0 - up (D.take q) v) ∧ Hid (wr.rowIs gb 2 n (f1 D v q)) ∧ Hid (Below gb w wr))
  case atStart => exact ⟨0, all, by omega, rfl, rfl, by rw [hall0]; exact HS0, Lib.hid (HR0.out v), HB1⟩
  case round => as_aux_lemma =>
    clear HR0 HB1 HS0
    obtain ⟨q, s, hq, rfl, rfl, HQ, HR, HB⟩ := hrel
    have hu := HUB.out q
    have hall3 : all0 ≤ 1099511627776 ∧ 0 ≤ all0 := by rw [HA0.out]; omega
    by_cases hqn : q < n
    · obtain ⟨x, hx⟩ : ∃ x, D[q]? = some x := ⟨_, List.getElem?_eq_getElem (by have := HN.out; omega)⟩
      obtain ⟨ab, off, rfl, hlt, c1⟩ := i64at (HD.out.below HB.out (by have := HGB.out; omega)) hx
      have hqn2 : (q : Int) < (n : Int) := by omega
      have hq0 : (0 : Int) ≤ (q : Int) := by omega
      obtain ⟨mn, hmn⟩ : ∃ mn, min x v = mn := ⟨_, rfl⟩
      obtain ⟨s2, hs2⟩ : ∃ s2, s - mn = s2 := ⟨_, rfl⟩
      have hu2 := HUB.out (q + 1)
      have HS2 : Hid (s2 = all0 - up (D.take (q + 1)) v) := Lib.hid (by rw [up_take hx, ← hs2, HQ.out, hmn]; omega)
      have hsb : -109951162777600 ≤ s2 ∧ s2 ≤ 1099511627776 := by rw [HS2.out]; omega
      have ws : IntKind.i64.wrap s2 = s2 := IntWalk.i64_in _ (by omega)
      have HX := Lib.hid hx
      have hxr := HO.out x (List.mem_of_getElem? hx)
      have r0 := HR.out.cell hqn
      have r1 := HR.out.frozen q
      have r2 := HR.out.lt
      obtain ⟨W2, hW2⟩ : ∃ W, W = wr.setCell ⟨gb, q, none⟩ (.int .i64 mn) := ⟨_, rfl⟩
      have HR2 := Lib.hid (show W2.rowIs gb 2 n (f1 D v (q + 1)) from by
        rw [hW2]
        refine (HR.out.set q _).congr fun j hj => ?_
        unfold f1
        by_cases e : j = q
        · subst e; rw [if_pos rfl, if_pos (by omega), getD_at HX.out, hmn]
        · rw [if_neg e]
          by_cases e2 : j < q
          · rw [if_pos e2, if_pos (by omega)]
          · rw [if_neg e2, if_neg (by omega)])
      have HB2 := Lib.hid (show Below gb w W2 from by rw [hW2]; exact HB.out.setCell (p := ⟨gb, q, none⟩) (Nat.le_refl _) _)
      have k0 : W2.cell? ⟨gb, q, none⟩ = some (.int .i64 mn) := by
        have h := HR2.out.cell hqn
        unfold f1 at h
        rwa [if_pos (by omega), getD_at HX.out, hmn] at h
      have k2 := HR2.out.lt
      unfold f1 at r0
      clear hx hu2 hsb hxr
      rcases Int.lt_trichotomy v x with hvx | hvx | hvx
      · obtain rfl : mn = v := by omega
        have e2 : ¬ x < mn := by omega
        have e3 : ¬ x ≤ mn := by omega
        clear hmn
        go_upto_region 7 with fail
        rw [← hW2]
        clear hW2
        go_wp2_with fail
        go_roundg (gk - 1)
        case measure => omega
        case rel => exact ⟨q + 1, s2, by omega, by simp, rfl, HS2, HR2, HB2⟩
      · subst hvx
        obtain rfl : mn = v := by omega
        clear hmn
        go_upto_region 7 with fail
        rw [← hW2]
        clear hW2
        go_wp2_with fail
        go_roundg (gk - 1)
        case measure => omega
        case rel => exact ⟨q + 1, s2, by omega, by simp, rfl, HS2, HR2, HB2⟩
      · obtain rfl : mn = x := by omega
        have e2 : ¬ v < mn := by omega
        have e3 : ¬ v ≤ mn := by omega
        clear hmn
        go_upto_region 7 with fail
        rw [← hW2]
        clear hW2
        go_wp2_with fail
        go_roundg (gk - 1)
        case measure => omega
        case rel => exact ⟨q + 1, s2, by omega, by simp, rfl, HS2, HR2, HB2⟩
    · have hqn2 : ¬ (q : Int) < (n : Int) := by omega
      obtain rfl : q = n := by omega
      have hD9 : D.take q = D := List.take_of_length_le (by have := HN.out; omega)
      obtain ⟨l0, hl0⟩ : ∃ l0, s = l0 := ⟨_, rfl⟩
      have HL0 := Lib.hid (show l0 = all0 - up D v from by rw [← hl0, HQ.out, hD9])
      have hl2 : 0 ≤ l0 ∧ l0 ≤ 1099511627776 := by
        have h1 := HLV.out.fits
        have h2 := HA0.out
        have h3 := HL0.out
        rw [hD9] at hu
        omega
      rw [hl0]
      have HR3 := Lib.hid (HR.out.congr fun j hj => f1_all D v l0 hj)
      clear hD9 hl0 HR HQ
      go_wp2_with fail
      go_loopg [0, 39] q (fun gk y x wx => ∃ (i : Nat) (s : Int), i + gk = q ∧ x = .int .i64 (i : Int) ∧ y = .int .i64 s ∧ 0 ≤ s ∧ s ≤ 1099511627776 ∧ Hid (s = Sh.leftOf v (D.take i) l0) ∧ Hid (wx.rowIs gb 2 q (f2 D v l0 i)) ∧ Hid (Below gb w wx))
      case atStart => exact ⟨0, l0, by omega, rfl, rfl, hl2.1, hl2.2, Lib.hid rfl, HR3, HB⟩
      case round => as_aux_lemma =>
        clear HR3 HB
        obtain ⟨i, s, hi, rfl, rfl, hs0, hs1, HQ, HR, HB⟩ := hrel
        by_cases hiq : i < q
        · obtain ⟨x, hx⟩ : ∃ x, D[i]? = some x := ⟨_, List.getElem?_eq_getElem (by have := HN.out; omega)⟩
          obtain ⟨ab, off, rfl, hlt, c1⟩ := i64at (HD.out.below HB.out (by have := HGB.out; omega)) hx
          have HX := Lib.hid hx
          have hiq2 : (i : Int) < (q : Int) := by omega
          have hi0 : (0 : Int) ≤ (i : Int) := by omega
          have hxr := HO.out x (List.mem_of_getElem? hx)
          obtain ⟨mn, hmn⟩ : ∃ mn, min x v = mn := ⟨_, rfl⟩
          have r0 := HR.out.cell hiq
          unfold f2 at r0
          rw [if_neg (by omega), getD_at hx, hmn] at r0
          have r1 := HR.out.frozen i
          have r2 := HR.out.lt
          have HP := Lib.hid (parts_at v D l0 i x hx)
          have HLF : Hid (Sh.leftOf v (D.take (i + 1)) l0 = Sh.leftB v x s) := Lib.hid (by rw [List.take_add_one, hx, Option.toList_some, (parts_snoc v x _ _).2, ← HQ.out])
          have HPT : Hid ((Sh.parts v D l0).getD i 0 = Sh.part v x s) := Lib.hid (by rw [getD_at HP.out, ← HQ.out])
          have hmb : 0 ≤ mn ∧ mn ≤ 1099511627776 := by unfold m40 at hxr; omega
          have HSTAY : Hid (Sh.part v x s = mn → wr.rowIs gb 2 q (f2 D v l0 (i + 1))) := Lib.hid (fun hp => HR.out.congr fun j hj => by
            unfold f2
            by_cases e : j = i
            · subst e; rw [if_neg (by omega), if_pos (by omega), getD_at HX.out, HPT.out, hp, hmn]
            · by_cases e2 : j < i
              · rw [if_pos e2, if_pos (by omega)]
              · rw [if_neg e2, if_neg (by omega)])
          have HMN := Lib.hid hmn
          clear hx hxr hmn
          by_cases hst : 0 < s ∧ v < x
          · obtain ⟨hst1, hst2⟩ := hst
            have b1 : decide (0 < s) = true := by simp [hst1]
            have b2 : decide (v < x) = true := by simp [hst2]
            have w3 : IntKind.i64.wrap (mn + 1) = mn + 1 := IntWalk.i64_in _ (by omega)
            have w4 : IntKind.i64.wrap (s - 1) = s - 1 := IntWalk.i64_in _ (by omega)
            have HS2 : Hid (s - 1 = Sh.leftOf v (D.take (i + 1)) l0) := Lib.hid (by rw [HLF.out]; unfold Sh.leftB; rw [if_pos ⟨hst2, hst1⟩])
            have HR2 : Hid ((wr.setCell ⟨gb, i, none⟩ (.int .i64 (mn + 1))).rowIs gb 2 q (f2 D v l0 (i + 1))) := Lib.hid (by
              refine (HR.out.set i _).congr fun j hj => ?_
              unfold f2
              by_cases e : j = i
              · subst e; rw [if_pos rfl, if_pos (by omega), HPT.out]; unfold Sh.part; rw [if_pos ⟨hst2, hst1⟩, HMN.out]
              · rw [if_neg e]
                by_cases e2 : j < i
                · rw [if_pos e2, if_pos (by omega)]
                · rw [if_neg e2, if_neg (by omega)])
            have HB2 := Lib.hid (HB.out.setCell (p := ⟨gb, i, none⟩) (Nat.le_refl _) (.int .i64 (mn + 1)))
            go_wp2_with fail
            go_roundg (gk - 1)
            case measure => omega
            case rel => exact ⟨i + 1, s - 1, by omega, by simp, rfl, by omega, by omega, HS2, HR2, HB2⟩
          · have HS2 : Hid (s = Sh.leftOf v (D.take (i + 1)) l0) := Lib.hid (by rw [HLF.out]; unfold Sh.leftB; rw [if_neg (fun h => hst ⟨h.2, h.1⟩)]; omega)
            have HR2 := Lib.hid (HSTAY.out (by unfold Sh.part; rw [if_neg (fun h => hst ⟨h.2, h.1⟩), HMN.out]; omega))
            by_cases hst1 : 0 < s
            · have b1 : decide (0 < s) = true := by simp [hst1]
              have hst2 : ¬ v < x := fun h => hst ⟨hst1, h⟩
              have b2 : decide (v < x) = false := by simp only [hst2, decide_false]
              clear hst
              go_wp2_with fail
              go_roundg (gk - 1)
              case measure => omega
              case rel => exact ⟨i + 1, s, by omega, by simp, rfl, hs0, hs1, HS2, HR2, HB⟩
            · have b1 : decide (0 < s) = false := by simp only [hst1, decide_false]
              clear hst
              go_wp2_with fail
              go_roundg (gk - 1)
              case measure => omega
              case rel => exact ⟨i + 1, s, by omega, by simp, rfl, hs0, hs1, HS2, HR2, HB⟩
        · have hiq2 : ¬ (i : Int) < (q : Int) := by omega
          obtain rfl : i = q := by omega
          have HE := Lib.hid (show IsVals wr (.slice (some ⟨gb, 0, none⟩) i i) (ints64 (Sh.parts v D (all0 - up D v))) from by
            have h := IsVals.row (cap := i) HR.out
            rwa [show (List.range i).map (f2 D v l0 i) = ints64 (Sh.parts v D (all0 - up D v)) from by
              rw [← HL0.out]
              apply List.ext_getElem?
              intro j
              unfold ints64
              by_cases hj : j < i
              · have hjl : j < (Sh.parts v D l0).length := by rw [parts_length, ← HN.out]; exact hj
                rw [List.getElem?_map, List.getElem?_range hj, List.getElem?_map, List.getElem?_eq_getElem hjl]
                simp only [Option.map_some, f2, if_pos hj]
                rw [getD_at (List.getElem?_eq_getElem hjl)]
              · rw [List.getElem?_eq_none (by simp; omega), List.getElem?_eq_none (by rw [List.length_map, parts_length, ← HN.out]; omega)]] at h)
          go_wp2_with fail
          go_ret
          exact ⟨v, _, rfl, HLV.out, by rw [HA0.out] at HE; exact HE.out, HGB.out ▸ HB.out⟩
end Go.Proofs.Ytfjoakhcgpckgaa
