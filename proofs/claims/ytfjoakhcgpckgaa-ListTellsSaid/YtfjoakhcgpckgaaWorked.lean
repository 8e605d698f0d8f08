/- Contract: the document's jobs in a row, each to the first hand that has least. -/
import Derived.Test.YtfjoakhcgpckgaaWorkRun
namespace Go.Proofs.Ytfjoakhcgpckgaa
open Go.ChangeShapes Go.WideShapes Go.ChangeAt Go.RowKit
set_option linter.unusedVariables false
open Wk
set_option maxRecDepth 20000 in
set_option maxHeartbeats 3200000 in
theorem worked_any (m n r : Nat) (D os : List Int) (a1 a2 : Option Addr) (c1 c2 : Nat) (w : World) (hm : 0 < m) (hm2 : m ≤ 20) (hn : n = D.length) (h4 : n ≤ 60) (hD : Vals w a1 (ints64 D)) (hok : ∀ x, x ∈ D → 0 ≤ x ∧ x ≤ 1000000000) (hr : r = os.length) (hr2 : r ≤ 60) (hos : Vals w a2 (ints64 os)) (hob : ∀ o, o ∈ os → 0 ≤ o ∧ o < n) :
    Calls Try.prog 52 #[.int .i64 m, .slice a1 n c1, .slice a2 r c2] w fun e w' => RunPost m n D os w e w' := by
  have HD := Lib.hid hD
  have HN := Lib.hid hn
  have HO := Lib.hid hok
  have HS := Lib.hid hos
  have HR := Lib.hid hr
  have HB := Lib.hid hob
  have hmk := Lib.hid (run_make_row' (P := Try.prog) 36 2 (.int .i64 0) 8 Try.underlying36 infoI64w rfl .i64 .i64 m (by omega) (by omega))
  have hmk1 := Lib.hid (run_make_row' (P := Try.prog) 58 3 (.int .i64 0) 8 Try.underlying58 infoIntD rfl .i64 .i64 n (by omega) (by omega))
  obtain ⟨gn, hgl⟩ : ∃ gn, gn = w.heap.size := ⟨_, rfl⟩
  obtain ⟨W1, hW1⟩ : ∃ W, W = (w.alloc (.cells (madeCells #[.int .i64 0] n) 3)).alloc (.cells (madeCells #[.int .i64 0] m) 2) := ⟨_, rfl⟩
  have HI0 : Hid (RunI (gn + 1) gn m n (gs m D (os.take 0)) w W1) := Lib.hid (by
    rw [hW1]
    refine ⟨?_, ?_, ((Below.refl _ _).alloc (Nat.le_refl _) _).alloc (by simp) _, by omega, by omega, by omega⟩
    · rw [hgl]; exact rowIs_made_at _ (.int .i64 0) m 2 (by simp)
    · rw [hgl]; exact (rowIs_made_at w (.int .i64 0) n 3 rfl).alloc _)
  have hmk2 := hmk.out
  have hmk3 := hmk1.out
  have HGL := Lib.hid hgl
  clear hD hn hok hos hr hob
  go_enter Try.func52, Try.ntmps52
  go_upto_region 3 with fail
  rw [← hW1, ← hgl]
  clear hmk2 hmk3 hW1 hgl
  obtain ⟨w0, rfl⟩ : ∃ x, x = w := ⟨_, rfl⟩
  go_wp2_with fail
  go_loopg [21] r (fun gk x wr => ∃ q : Nat, q + gk = r ∧ x = .int .i64 (q : Int) ∧ Hid (RunI (gn + 1) gn m n (gs m D (os.take q)) w0 wr))
  case atStart => exact ⟨0, by omega, rfl, HI0⟩
  case round =>
    clear HI0
    obtain ⟨q, hq, rfl, HI⟩ := hrel
    by_cases hqr : q < r
    · obtain ⟨o, ho⟩ : ∃ o, os[q]? = some o := ⟨_, List.getElem?_eq_getElem (by have := HR.out; omega)⟩
      have hob := HB.out o (List.mem_of_getElem? ho)
      obtain ⟨p, rfl⟩ : ∃ p : Nat, o = (p : Int) := ⟨o.toNat, (Int.toNat_of_nonneg hob.1).symm⟩
      obtain ⟨x, hx⟩ : ∃ x, D[p]? = some x := ⟨_, List.getElem?_eq_getElem (by have := HN.out; omega)⟩
      obtain ⟨b1, o1, rfl, hb1, d0⟩ := i64at HD.out hx
      obtain ⟨b2, o2, rfl, hb2, d2⟩ := i64at (HS.out.below HI.out.bel (Nat.le_refl _)) ho
      have HST := Lib.hid (gs_take (m := m) (D := D) ho)
      have HBD := Lib.hid (fun i => gs_bound (m := m) (D := D) (os := os) HO.out q i)
      have HFM := Lib.hid (amin_min (gs m D (os.take q)).1 m hm)
      have HX := Lib.hid hx
      have hp0 : (0 : Int) ≤ (p : Int) := by omega
      have hp2 : (p : Int) < (n : Int) := by omega
      have hqr2 : (q : Int) < (r : Int) := by omega
      have hm3 : (0 : Int) < (m : Int) := by omega
      have HD0 := Lib.hid d0
      obtain ⟨S, hS⟩ : ∃ S, gs m D (os.take q) = S := ⟨_, rfl⟩
      rw [hS] at HI HST HBD HFM
      clear hx ho hS d0
      obtain ⟨gq, rfl⟩ : ∃ g, g = gk := ⟨_, rfl⟩
      obtain ⟨wq, rfl⟩ : ∃ x, x = wr := ⟨_, rfl⟩
      go_wp2_with fail
      go_loopg [12, 26] m (fun gk y x wr => ∃ k : Nat, k + gk = m ∧ x = .int .i64 (k : Int) ∧ y = .int .i64 ((amin S.1 k : Nat) : Int) ∧ Hid (RunI (gn + 1) gn m n S w0 wr))
      case atStart => exact ⟨0, by omega, rfl, rfl, HI⟩
      case round =>
        clear HI
        obtain ⟨k, hk, rfl, rfl, HI⟩ := hrel
        by_cases hkm : k < m
        · have hkm2 : (k : Int) < (m : Int) := by omega
          have hk0 : (0 : Int) ≤ (k : Int) := by omega
          obtain ⟨c, hc⟩ : ∃ c, amin S.1 k = c := ⟨_, rfl⟩
          have hcm : c < m := by
            rcases Nat.eq_zero_or_pos k with h | h
            · subst h; rw [← hc]; exact hm
            · have := (amin_min S.1 k h).lt; omega
          have hcm2 : (c : Int) < (m : Int) := by omega
          have hc0 : (0 : Int) ≤ (c : Int) := by omega
          have r1 := (HI.out.load).at hkm
          have r2 := (HI.out.load).at hcm
          obtain ⟨u, hu⟩ : ∃ u, S.1 k = u := ⟨_, rfl⟩
          obtain ⟨v, hv⟩ : ∃ v, S.1 c = v := ⟨_, rfl⟩
          rw [hu] at r1
          rw [hv] at r2
          rw [hc]
          have HI2 : Hid (∀ z, RunI (gn + 1) gn m n S w0 (wr.drewN z)) := Lib.hid (fun z => ⟨rowIs_drewN HI.out.load z, rowIs_drewN HI.out.on z, below_drewN HI.out.bel z, HI.out.lo, HI.out.hi, HI.out.ne⟩)
          by_cases huv : u < v
          · have HAM : Hid (k = amin S.1 (k + 1)) := Lib.hid (by unfold amin; rw [hc, hu, hv, if_pos huv])
            have hb : decide (u < v) = true := by simp [huv]
            clear hc hu hv
            go_wp2_with fail
            go_quiet (fail)
            go_wp2_with fail
            go_roundg (gk - 1)
            case measure => omega
            case rel => exact ⟨k + 1, by omega, by simp, by rw [← HAM.out], Lib.hid (HI2.out _)⟩
          · have HAM : Hid (c = amin S.1 (k + 1)) := Lib.hid (by unfold amin; rw [hc, hu, hv, if_neg huv])
            have hb : decide (u < v) = false := by simp only [huv, decide_false]
            clear hc hu hv
            go_wp2_with fail
            go_quiet (fail)
            go_wp2_with fail
            go_roundg (gk - 1)
            case measure => omega
            case rel => exact ⟨k + 1, by omega, by simp, by rw [← HAM.out], Lib.hid (HI2.out _)⟩
        · have hkm2 : ¬ (k : Int) < (m : Int) := by omega
          obtain rfl : k = m := by omega
          have hI := HI.out
          obtain ⟨k', hk'⟩ : ∃ c, amin S.1 k = c := ⟨_, rfl⟩
          have hFM := HFM.out
          rw [hk'] at hFM
          have hkm := hFM.lt
          obtain ⟨y, hy⟩ : ∃ y, S.1 k' = y := ⟨_, rfl⟩
          have hyb : 0 ≤ y ∧ y ≤ q * 1000000000 := by have := HBD.out k'; rwa [hy] at this
          have hxb := HO.out x (List.mem_of_getElem? HX.out)
          have wy : IntKind.i64.wrap (y + x) = y + x := IntWalk.i64_in _ (by omega)
          have HI2 := Lib.hid (show RunI (gn + 1) gn k n (gs k D (os.take (q + 1))) w0 (((wr.setCell ⟨gn, p, none⟩ (.int .i64 k')).drew).setCell ⟨gn + 1, k', none⟩ (.int .i64 (y + x))) from by
            have h := hI.step D p
            rw [hk', hy, List.getD_eq_getElem?_getD, HX.out] at h
            rw [HST.out]
            exact h)
          have k0 := (hI.load).at hkm
          rw [hy] at k0
          have k1 := World.rowIs.frozen hI.load k'
          have k2 := World.rowIs.frozen hI.on p
          have k3 := World.rowIs.lt hI.load
          have k4 := World.rowIs.lt hI.on
          have hkm4 : (k' : Int) < (k : Int) := by omega
          have hk0 : (0 : Int) ≤ (k' : Int) := by omega
          obtain ⟨z, k5⟩ : ∃ z, wr.cell? ⟨gn, p, none⟩ = some (.int .i64 z) := ⟨_, World.rowIs.cell hI.on (by omega)⟩
          have HBW := Lib.hid (hI.bel.setCell (p := ⟨gn, p, none⟩) hI.hi (.int .i64 (k' : Int)))
          have e1 := (HBW.out.cell (p := ⟨b1, o1 + p, none⟩) hb1).trans HD0.out
          have e2 : (wr.setCell ⟨gn, p, none⟩ (.int .i64 (k' : Int))).cell? ⟨gn + 1, k', none⟩ = some (.int .i64 y) := by
            rw [World.cell?_setCell_other _ _ _ _ (by intro h; have := congrArg Addr.block h; simp only at this; omega)]; exact k0
          have e3 : (wr.setCell ⟨gn, p, none⟩ (.int .i64 (k' : Int))).frozen? ⟨gn + 1, k', none⟩ = false := by simpa using k1
          have e4 : gn + 1 < (wr.setCell ⟨gn, p, none⟩ (.int .i64 (k' : Int))).heap.size := by simpa using k3
          have e5 : b1 < (wr.setCell ⟨gn, p, none⟩ (.int .i64 (k' : Int))).heap.size := by have := HBW.out.size; omega
          rw [hk']
          clear hk' hy hI hFM k0
          go_wp2_with fail
          obtain ⟨wc, hwc⟩ : ∃ wc, wc = wr.setCell ⟨gn, p, none⟩ (.int .i64 (k' : Int)) := ⟨_, rfl⟩
          rw [← hwc] at e1 e2 e3 e4 e5 HI2 ⊢
          clear hwc
          go_still_tail 10, (by kernel_rfl)
          change wpList _ _ _ _ _ wc.drew
          go_wp2_with fail
          go_roundg (gq - 1)
          case measure => omega
          case rel => exact ⟨q + 1, by omega, by simp, HI2⟩
    · have hqr2 : ¬ (q : Int) < (r : Int) := by omega
      obtain rfl : q = r := by omega
      have hI := HI.out
      rw [List.take_of_length_le (by have := HR.out; omega)] at hI
      have HE := Lib.hid (intsRow (cap := n) hI.on)
      have HBL := Lib.hid hI.bel
      have HBD := Lib.hid (fun i => gs_bound (m := m) (D := D) (os := os) HO.out q i)
      have HMX := Lib.hid (most_any (gn + 1) m m _ wr hI.load (by omega) (fun i _ => by have := (HBD.out i).1; rwa [List.take_of_length_le (by have := HR.out; omega)] at this))
      clear hI
      go_wp2_with (go_at_call 133; refine Calls.mono HMX.out ?_; rintro e w3 ⟨rfl, hw3⟩; obtain rfl := hw3.symm)
      go_ret2
      exact ⟨_, rfl, HE.out, HBL.out⟩
end Go.Proofs.Ytfjoakhcgpckgaa
