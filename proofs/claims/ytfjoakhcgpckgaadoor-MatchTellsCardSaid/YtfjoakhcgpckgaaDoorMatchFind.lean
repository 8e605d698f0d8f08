/- Contract: to find somebody for one. -/
import Derived.Test.YtfjoakhcgpckgaaDoorMatchTab
import Derived.StillTailTactics
import Derived.Deep.LoopGhost
import Derived.RegionTactic
import Derived.Deep.CutBlock
import Derived.Deep.DeepCutAuto
namespace Go.Proofs.YtfjoakhcgpckgaaDoor
open Go.ChangeShapes Go.WideShapes Go.ChangeAt Go.RowKit
set_option linter.unusedVariables false
open Gr (El)
open Mt
def FindP (B gt gm gh n m : Nat) (may : Nat → Nat) (N : Nat) : Prop := ∀ (h : Hs) (seen i : Nat) (w : World), un seen m ≤ N → i < n → seen < 2 ^ 60 → Mt.Ok (Ed may) n m h → TabW gt gm gh n m may h seen w → Gr.Bru w → B ≤ w.heap.size →
  Calls Tryd.prog 47 #[.pointer (some ⟨gt, 0, none⟩), .int .i64 (i : Int)] w fun e w' => FindPost gt gm gh n m may h seen i w B e w'
theorem lt60 {m x : Nat} (hm : m ≤ 60) (h : x < 2 ^ m) : x < 2 ^ 60 := Nat.lt_of_lt_of_le h (Nat.pow_le_pow_right (by decide) hm)
theorem or60 {s k : Nat} (hs : s < 2 ^ 60) (hk : k < 60) : s ||| 2 ^ k < 2 ^ 60 := Nat.or_lt_two_pow hs (Nat.pow_lt_pow_right (by decide) hk)
theorem bit_lt {x m k : Nat} (h : x < 2 ^ m) (hk : x.testBit k = true) : k < m := by
  rcases Nat.lt_or_ge k m with h1 | h1
  · exact h1
  · rw [Nat.testBit_lt_two_pow (Nat.lt_of_lt_of_le h (Nat.pow_le_pow_right (by decide) h1))] at hk; cases hk
theorem left_bits {a b : Nat} (ha : a < 2 ^ 60) (hb : b < 2 ^ 60) (k : Nat) : (a &&& (18446744073709551615 - b)).testBit k = (a.testBit k && !b.testBit k) := Gr.bit_and_not (by omega) (by omega) k
set_option maxRecDepth 20000 in
set_option maxHeartbeats 6400000 in
theorem find_step (B gt gm gh n m N : Nat) (may : Nat → Nat) (hn : n ≤ 60) (hm : m ≤ 60) (hmay : ∀ i, may i < 2 ^ m) (hGB : 0 < B) (hB1 : B ≤ gt) (hB2 : B ≤ gh) (ih : ∀ N', N' < N → FindP B gt gm gh n m may N') : FindP B gt gm gh n m may N := by
  intro h seen i w hN hi hse hO hT hTZ hBw
  have HI := Lib.hid ih
  have HO := Lib.hid hO
  have HTZ := Lib.hid hTZ
  have HMY := Lib.hid hmay
  have HSE := Lib.hid hse
  have HUN := Lib.hid hN
  have HT0 := Lib.hid hT
  have k0 := hT.c0
  have k2 := hT.c2
  have km := World.rowIs.cell hT.row hi
  have kl := hT.tab.lt
  have kml := hT.row.lt
  have hi1 : (0 : Int) ≤ (i : Int) := by omega
  have hi2 : (i : Int) < (n : Int) := by omega
  unfold u64s at km
  have HAN := Lib.hid (u64_andNot_nat (may i) seen (by have := lt60 hm (hmay i); omega) (by omega))
  have HS0 := Lib.hid (Seen.refl may h seen)
  obtain ⟨z0, hz0⟩ : ∃ z, may i &&& (18446744073709551615 - seen) = z := ⟨_, rfl⟩
  have HZ0 : Hid (∀ k, z0.testBit k = ((may i).testBit k && !seen.testBit k)) := Lib.hid (fun k => by rw [← hz0]; exact left_bits (lt60 hm (hmay i)) hse k)
  rw [hz0] at HAN
  obtain ⟨yi, hyi⟩ : ∃ y, may i = y := ⟨_, rfl⟩
  rw [hyi] at HAN km
  have HYI := Lib.hid hyi
  clear hN hse hO hT hTZ hmay ih hz0 hyi
  go_enter Tryd.func47, Tryd.ntmps47
  go_wp2_with fail
  go_quiet (fail)
  rw [HAN.out]
  have HT1 := Lib.hid (HT0.out.below ((Drawn.drewN w nq).below _))
  have HB1 := Lib.hid (show Below B w (w.drewN nq) from (Drawn.drewN w nq).below _)
  obtain ⟨w0, rfl⟩ : ∃ x, x = w := ⟨_, rfl⟩
  generalize w0.drewN nq = w1 at HT1 HB1 ⊢
  clear HAN HT0 k0 k2 km kl kml
  go_wp2_with fail
  go_loopg [5] (un seen m + 1) (fun gk x wr => ∃ z sc : Nat, un sc m + 1 ≤ gk ∧ un sc m ≤ un seen m ∧ x = .int .u64 (z : Int) ∧ Hid (∀ k, z.testBit k = ((may i).testBit k && !sc.testBit k)) ∧ Hid (Seen may h seen sc) ∧ Hid (∀ r h' s', FindR may h sc i r h' s' → FindR may h seen i r h' s') ∧ Hid (sc < 2 ^ 60) ∧ Hid (TabW gt gm gh n m may h sc wr) ∧ Hid (Below B w0 wr))
  case atStart => exact ⟨z0, seen, by omega, by omega, rfl, HZ0, HS0, Lib.hid (fun _ _ _ h => h), HSE, HT1, HB1⟩
  case round =>
    clear HZ0 HS0 HT1 HB1
    obtain ⟨z, sc, hg, hun, rfl, HZ, HS, HR, HC, HT, HB⟩ := hrel
    have hsz := HB.out.size
    by_cases hz : z = 0
    · subst hz
      have HQ : Hid (FindPost gt gm gh n m may h seen i w0 B (.returned (.bool false)) wr) := Lib.hid (by
        have hall : ∀ k, Ed may i k → sc.testBit k = true := fun k e => by
          have h1 := HZ.out k
          rw [Nat.zero_testBit, show (may i).testBit k = true from e] at h1
          simpa using h1.symm
        exact ⟨false, h, sc, rfl, HT.out, HC.out, HB.out, HR.out _ _ _ (.none hall), (fun h => by cases h), fun _ => ⟨rfl, HS.out, hall⟩⟩)
      go_wp2_with fail
      go_ret
      exact HQ.out
    · have hzb : ((z : Int) != 0) = true := by simp; omega
      have HZN := Lib.hid hz
      have hz64 : z < 18446744073709551616 := by
        have : z < 2 ^ 60 := Nat.lt_pow_two_of_testBit _ (fun j hj => by
          rw [HZ.out j, Nat.testBit_lt_two_pow (Nat.lt_of_lt_of_le (lt60 hm (HMY.out i)) (Nat.pow_le_pow_right (by decide) hj))]; rfl)
        omega
      have HTT := Lib.hid (HTZ.out.below HB.out hGB)
      clear hz
      go_upto_region 5 with (go_at_call 48; refine Calls.mono (Gr.tz_low z _ hz64 HZN.out HTT.out) ?_; rintro e w3 ⟨⟨k, rfl, hp1, hp2, hp3⟩, hw3⟩; obtain rfl := hw3; have HP1 := Lib.hid hp1; have HP3 := Lib.hid hp3; clear hp1 hp3)
      have hk1 := HZ.out k
      rw [HP1.out] at hk1
      have hk2 : (may i).testBit k = true ∧ sc.testBit k = false := by simpa using hk1.symm
      have hkm : k < m := bit_lt (HMY.out i) hk2.1
      have HE : Hid (Ed may i k) := Lib.hid hk2.1
      have HNS := Lib.hid hk2.2
      have HLOW : Hid (Low may sc i k) := Lib.hid ⟨hk2.1, hk2.2, fun j hj hh => by
        have h1 := HP3.out j hj
        rw [HZ.out j, show (may i).testBit j = true from hh.1, hh.2] at h1
        cases h1⟩
      have hkA : seen.testBit k = false := by
        cases h1 : seen.testBit k with
        | false => rfl
        | true => have := HS.out.sub k h1; rw [HNS.out] at this; cases this
      have HKA : Hid (k < m ∧ seen.testBit k = false) := Lib.hid ⟨hkm, hkA⟩
      have hUM := un_mark HNS.out m hkm
      have k2 := HT.out.c2
      have kl := HT.out.tab.lt
      have kf := World.rowIs.frozen HT.out.tab 2
      have HOR := Lib.hid (Gr.or_pow (a := sc) (i := k) (by have := HC.out; omega) (by omega))
      have HC2 := Lib.hid (or60 HC.out (show k < 60 by omega))
      have HT2 := Lib.hid (HT.out.mark (sc ||| 2 ^ k)).drew
      have hkk0 : (0 : Int) ≤ (k : Int) := by omega
      clear hk1 hk2 hkA
      go_region
      rw [HOR.out]
      obtain ⟨wq, hwq⟩ : ∃ W, W = (wr.setCell ⟨gt, 2, none⟩ (.int .u64 ((sc ||| 2 ^ k : Nat) : Int))).drew := ⟨_, rfl⟩
      have HB2 : Hid (Below B w0 (wr.setCell ⟨gt, 2, none⟩ (.int .u64 ((sc ||| 2 ^ k : Nat) : Int))).drew) := Lib.hid (HB.out.setCell (p := ⟨gt, 2, none⟩) hB1 _).drew
      rw [← hwq] at HT2 HB2 ⊢
      clear hwq k2 kl kf HT HB hsz
      obtain ⟨s1, hs1⟩ : ∃ s, sc ||| 2 ^ k = s := ⟨_, rfl⟩
      have HS1 := Lib.hid hs1
      rw [hs1] at HT2 HC2 hUM ⊢
      clear hs1
      have q1 := HT2.out.c1
      have q3 := World.rowIs.frozen HT2.out.has k
      have q4 := HT2.out.has.lt
      have q5 := HT2.out.tab.lt
      have hkmi : (k : Int) < (m : Int) := by omega
      have hsz := HB2.out.size
      by_cases hfree : h k = -1
      · have q2 : wq.cell? ⟨gh, k, none⟩ = some (.int .i64 (-1)) := by have := World.rowIs.cell HT2.out.has hkm; unfold hsF at this; rwa [hfree] at this
        have HQ : Hid (FindPost gt gm gh n m may h seen i w0 B (.returned (.bool true)) (wq.setCell ⟨gh, k, none⟩ (.int .i64 (i : Int)))) := Lib.hid ⟨true, _, s1, rfl, HT2.out.give k i, HC2.out, HB2.out.setCell (p := ⟨gh, k, none⟩) hB2 _, HR.out _ _ _ (by rw [← HS1.out]; exact .free HLOW.out hfree), fun _ => Aug.stop (A := fun k => k < m ∧ seen.testBit k = false) HKA.out HE.out hfree, fun h => by cases h⟩
        clear hfree
        go_wp2_with fail
        go_ret
        exact HQ.out
      · have hlo := HO.out.lo k
        obtain ⟨j, hj⟩ : ∃ j : Nat, h k = (j : Int) := ⟨(h k).toNat, by omega⟩
        have hjn := (HO.out.edge k j hj).1
        have q2 : wq.cell? ⟨gh, k, none⟩ = some (.int .i64 (j : Int)) := by have := World.rowIs.cell HT2.out.has hkm; unfold hsF at this; rwa [hj] at this
        have hj0 : decide ((j : Int) < 0) = false := by simp
        have HJ := Lib.hid hj
        have HREC := Lib.hid (HI.out (un s1 m) (by have := HUN.out; omega) h s1 j wq (Nat.le_refl _) hjn HC2.out HO.out HT2.out (HTZ.out.below HB2.out hGB) (by omega))
        clear hfree hj hlo
        go_upto_region 7 with (go_at_call 47; refine Calls.mono HREC.out ?_; rintro e w4 ⟨r, h', s', rfl, hT4, hs4, hB4, hfr, hy, hno⟩; have HFR := Lib.hid hfr; clear hfr; have HT4 := Lib.hid hT4; have HS4 := Lib.hid hs4; have HB4 := Lib.hid (HB2.out.trans hB4); have HY := Lib.hid hy; have HNO := Lib.hid hno; clear hT4 hs4 hB4 hy hno; rcases r with _ | _)
        · obtain ⟨hh, hS, hN⟩ := HNO.out (by trivial)
          subst hh
          have HR2 := Lib.hid (fun r h2 s2 (hf : FindR may h' s' i r h2 s2) => HR.out r h2 s2 (.no HLOW.out HJ.out (by rw [HS1.out]; exact HFR.out) hf))
          have HS2 := Lib.hid (HS.out.more HJ.out (by rw [HS1.out]; exact hS) hN)
          have hun2 := un_mono hS.sub m
          have k0 := HT4.out.c0
          have k2 := HT4.out.c2
          have km := World.rowIs.cell HT4.out.row hi
          have kl := HT4.out.tab.lt
          have kml := HT4.out.row.lt
          unfold u64s at km
          rw [HYI.out] at km
          have HAN := Lib.hid (u64_andNot_nat yi s' (by have := lt60 hm (HMY.out i); rw [HYI.out] at this; omega) (by have := HS4.out; omega))
          obtain ⟨z2, hz2⟩ : ∃ z, yi &&& (18446744073709551615 - s') = z := ⟨_, rfl⟩
          have HZ2 : Hid (∀ k, z2.testBit k = ((may i).testBit k && !s'.testBit k)) := Lib.hid (fun k => by rw [← hz2, ← HYI.out]; exact left_bits (lt60 hm (HMY.out i)) HS4.out k)
          rw [hz2] at HAN
          have HTN := Lib.hid (fun q => HT4.out.below ((Drawn.drewN w4 q).below _))
          have HBN := Lib.hid (fun q => HB4.out.trans ((Drawn.drewN w4 q).below _))
          clear hS hN hz2
          go_quiet (fail)
          rw [HAN.out]
          go_wp2_with fail
          go_roundg (gk - 1)
          case measure => omega
          case rel => exact ⟨z2, s', by omega, by omega, rfl, HZ2, HS2, HR2, HS4, Lib.hid (HTN.out _), Lib.hid (HBN.out _)⟩
        · have q1' := HT4.out.c1
          have q3' := World.rowIs.frozen HT4.out.has k
          have q4' := HT4.out.has.lt
          have q5' := HT4.out.tab.lt
          obtain ⟨y, q2'⟩ : ∃ y, w4.cell? ⟨gh, k, none⟩ = some (.int .i64 y) := ⟨_, World.rowIs.cell HT4.out.has hkm⟩
          have HQ : Hid (FindPost gt gm gh n m may h seen i w0 B (.returned (.bool true)) (w4.setCell ⟨gh, k, none⟩ (.int .i64 (i : Int)))) := Lib.hid ⟨true, _, s', rfl, HT4.out.give k i, HS4.out, HB4.out.setCell (p := ⟨gh, k, none⟩) hB2 _, HR.out _ _ _ (.yes HLOW.out HJ.out (by rw [HS1.out]; exact HFR.out)), fun _ => Aug.next (A := fun k => k < m ∧ seen.testBit k = false) HKA.out HE.out HJ.out ((HY.out (by trivial)).mono (fun x hx => by
            have h1 : s1.testBit x = (sc.testBit x || decide (k = x)) := by rw [← HS1.out]; exact Gr.bit_set sc k x
            rw [hx.2] at h1
            have h2 : sc.testBit x = false ∧ ¬ k = x := by simpa using h1.symm
            refine ⟨⟨hx.1, ?_⟩, fun e => h2.2 e.symm⟩
            cases h3 : seen.testBit x with
            | false => rfl
            | true => have := HS.out.sub x h3; rw [h2.1] at this; cases this)), fun h => by cases h⟩
          go_wp2_with fail
          go_ret
          exact HQ.out
theorem find_any (B gt gm gh n m : Nat) (may : Nat → Nat) (hn : n ≤ 60) (hm : m ≤ 60) (hmay : ∀ i, may i < 2 ^ m) (hGB : 0 < B) (hB1 : B ≤ gt) (hB2 : B ≤ gh) : ∀ N, FindP B gt gm gh n m may N := by
  intro N
  induction N using Nat.strongRecOn with
  | ind N ih => exact find_step B gt gm gh n m N may hn hm hmay hGB hB1 hB2 ih
end Go.Proofs.YtfjoakhcgpckgaaDoor
