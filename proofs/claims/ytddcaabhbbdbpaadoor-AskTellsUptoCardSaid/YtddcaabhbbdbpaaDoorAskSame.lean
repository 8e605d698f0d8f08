/- Contract: are two asks the same? The document's, at two that read as one. -/
import Derived.Test.YtddcaabhbbdbpaaDoorAskErr
import Derived.Deep.RegionHeld3
import Derived.Deep.LoopGhost
import Derived.Deep.CutBlock
import Derived.Deep.DeepCutAuto
namespace Go.Proofs.YtddcaabhbbdbpaaDoor
open Go.ChangeShapes Go.WideShapes Go.ChangeAt Go.RowKit
set_option linter.unusedVariables false
open Tp
set_option maxRecDepth 20000 in
set_option maxHeartbeats 64000000 in
theorem same_all : ∀ (N : Nat) (x : Ask) (v v' : Value) (w : World), x.size ≤ N → AskV w x v → AskV w x v' → Calls Tryd.prog 9 #[v, v'] w fun e w' => e = .returned (.bool true) ∧ Below w.heap.size w w' := by
  intro N
  induction N with
  | zero => intro x v v' w h; have := Ask.one_le x; omega
  | succ N ih =>
    intro x v v' w hN hx hx'
    have HIH := Lib.hid ih
    cases x with
    | mk k ka va nu l =>
    rw [AskV] at hx hx'
    obtain ⟨ad, n, cap, rfl, hn, hcap, hmax, u1, u2, hrow⟩ := hx
    obtain ⟨ad', n', cap', rfl, hn', hcap', hmax', u3, u4, hrow'⟩ := hx'
    obtain rfl : n = n' := by rw [hn, hn']
    rw [Ask.size] at hN
    have HN := Lib.hid hn
    have HR := Lib.hid hrow
    have HR' := Lib.hid hrow'
    obtain ⟨a1, ha1⟩ : ∃ a, bts ka = a := ⟨_, rfl⟩
    obtain ⟨a2, ha2⟩ : ∃ a, bts va = a := ⟨_, rfl⟩
    rw [ha1, ha2]
    have hnm : n ≤ 9223372036854775807 := by omega
    clear ih hn hn' hrow hrow' u1 u2 u3 u4 ha1 ha2 hcap hcap' hmax hmax'
    obtain ⟨W0, hW0⟩ : ∃ W, W = (w.alloc (.cells #[.int .i64 k, .string a1, .string a2, .int .i64 nu, .slice ad n cap] 24)).alloc (.cells #[.int .i64 k, .string a1, .string a2, .int .i64 nu, .slice ad' n cap'] 24) := ⟨_, rfl⟩
    have hb9 : Below w.heap.size w W0 := by rw [hW0]; exact ((Below.refl _ _).alloc (Nat.le_refl _) _).alloc (by simp) _
    have HB9 := Lib.hid hb9
    have hsz : W0.heap.size = w.heap.size + 2 := by rw [hW0]; simp
    have d4 : W0.cell? ⟨w.heap.size, 4, none⟩ = some (.slice ad n cap) := by rw [hW0]; simp
    have e4 : W0.cell? ⟨w.heap.size + 1, 4, none⟩ = some (.slice ad' n cap') := by rw [hW0]; simp
    obtain ⟨cx, hcx⟩ : ∃ c, c = w.heap.size := ⟨_, rfl⟩
    rw [← hcx] at d4 e4 hsz
    have hcx0 : cx < W0.heap.size := by omega
    have hcx1 : cx + 1 < W0.heap.size := by omega
    clear hb9 hsz
    have hnn : ((n : Int) != (n : Int)) = false := by simp
    have hs1 : (a1.toList != a1.toList) = false := by simp
    have hs2 : (a2.toList != a2.toList) = false := by simp
    go_enter Tryd.func9, Tryd.ntmps9
    go_upto_region 3 with fail
    rw [← hW0, ← hcx]
    clear hW0 hcx
    go_wp2_with fail
    go_loopg [44] n (fun g x wr => ∃ j : Nat, j + g = n ∧ x = .int .i64 (j : Int) ∧ Hid (Below W0.heap.size W0 wr))
    case atStart => exact ⟨0, by omega, rfl, Lib.hid (Below.refl _ _)⟩
    case round =>
      obtain ⟨j, hj, rfl, HB⟩ := hrel
      have HBW : Hid (Below w.heap.size w wr) := Lib.hid (HB9.out.trans (HB.out.mono HB9.out.size))
      by_cases hjn : j < n
      · obtain ⟨y, hy⟩ : ∃ y, l[j]? = some y := ⟨_, List.getElem?_eq_getElem (by rw [← HN.out]; exact hjn)⟩
        obtain ⟨bl, off, rfl, hb, hat⟩ := HR.out (by omega)
        obtain ⟨bm, ofm, rfl, hbm0, hat'⟩ := HR'.out (by omega)
        have hsy := Ask.sizes_at hy
        obtain ⟨k0, k1, k2, k3, ad0, len0, cap0, c0, c1, c2, c3, c4, hyv⟩ := (AsksV.below HBW.out l bl off hb hat).get' hy
        obtain ⟨m0, m1, m2, m3, ad1, len1, cap1, z0, z1, z2, z3, z4, hzv⟩ := (AsksV.below HBW.out l bm ofm hbm0 hat').get' hy
        have hbr : bl < wr.heap.size := Nat.lt_of_lt_of_le hb HBW.out.size
        have hbm : bm < wr.heap.size := Nat.lt_of_lt_of_le hbm0 HBW.out.size
        have hj1 : (0 : Int) ≤ (j : Int) := by omega
        have hj2 : (j : Int) < (n : Int) := by omega
        have f4 := (HB.out.cell (p := ⟨cx, 4, none⟩) hcx0).trans d4
        have g4 := (HB.out.cell (p := ⟨cx + 1, 4, none⟩) hcx1).trans e4
        have hcr0 : cx < wr.heap.size := Nat.lt_of_lt_of_le hcx0 HB.out.size
        have hcr1 : cx + 1 < wr.heap.size := Nat.lt_of_lt_of_le hcx1 HB.out.size
        have HC : Hid (∀ W, Below wr.heap.size wr W → Calls Tryd.prog 9 #[.agg #[.int .i64 k0, .string k1, .string k2, .int .i64 k3, .slice ad0 len0 cap0], .agg #[.int .i64 m0, .string m1, .string m2, .int .i64 m3, .slice ad1 len1 cap1]] W fun e w' => e = .returned (.bool true) ∧ Below W.heap.size W w') := Lib.hid (fun W hW => HIH.out y _ _ W (by omega) (AskV.below hW _ _ hyv) (AskV.below hW _ _ hzv))
        clear hat hat' hy hyv hzv
        go_upto_region 6 with fail
        go_region_held3 (fun W => W.cell? ⟨cx, 4, none⟩ = some (.slice (some ⟨bl, off, none⟩) n cap) ∧ W.cell? ⟨cx + 1, 4, none⟩ = some (.slice (some ⟨bm, ofm, none⟩) n cap') ∧ W.cell? ⟨bl, off + j * 5, none⟩ = some (.int .i64 k0) ∧ W.cell? ⟨bl, off + j * 5 + 1, none⟩ = some (.string k1) ∧ W.cell? ⟨bl, off + j * 5 + 2, none⟩ = some (.string k2) ∧ W.cell? ⟨bl, off + j * 5 + 3, none⟩ = some (.int .i64 k3) ∧ W.cell? ⟨bl, off + j * 5 + 4, none⟩ = some (.slice ad0 len0 cap0) ∧ W.cell? ⟨bm, ofm + j * 5, none⟩ = some (.int .i64 m0) ∧ W.cell? ⟨bm, ofm + j * 5 + 1, none⟩ = some (.string m1) ∧ W.cell? ⟨bm, ofm + j * 5 + 2, none⟩ = some (.string m2) ∧ W.cell? ⟨bm, ofm + j * 5 + 3, none⟩ = some (.int .i64 m3) ∧ W.cell? ⟨bm, ofm + j * 5 + 4, none⟩ = some (.slice ad1 len1 cap1)) (first | exact ⟨f4, g4, c0, c1, c2, c3, c4, z0, z1, z2, z3, z4⟩ | exact ⟨(hb1.cell (p := ⟨cx, _, none⟩) hcr0).trans f4, (hb1.cell (p := ⟨cx + 1, _, none⟩) hcr1).trans g4, (hb1.cell (p := ⟨bl, _, none⟩) hbr).trans c0, (hb1.cell (p := ⟨bl, _, none⟩) hbr).trans c1, (hb1.cell (p := ⟨bl, _, none⟩) hbr).trans c2, (hb1.cell (p := ⟨bl, _, none⟩) hbr).trans c3, (hb1.cell (p := ⟨bl, _, none⟩) hbr).trans c4, (hb1.cell (p := ⟨bm, _, none⟩) hbm).trans z0, (hb1.cell (p := ⟨bm, _, none⟩) hbm).trans z1, (hb1.cell (p := ⟨bm, _, none⟩) hbm).trans z2, (hb1.cell (p := ⟨bm, _, none⟩) hbm).trans z3, (hb1.cell (p := ⟨bm, _, none⟩) hbm).trans z4⟩) (first | (go_at_call 9; refine Calls.mono (HC.out _ (by first | exact Below.refl _ _ | go_grown)) ?_; rintro e w1 ⟨rfl, hb1⟩))
        all_goals
          have HBX : Hid (Below W0.heap.size W0 w1) := Lib.hid (HB.out.trans (Below.mono (B := wr.heap.size) (by first | exact (show Below wr.heap.size wr wr.drew from by go_grown).trans hb1 | exact hb1) HB.out.size))
          clear hb1
          go_wp2_with fail
          go_roundg (n - (j + 1))
          case measure => omega
          case rel => exact ⟨j + 1, by omega, by simp, HBX⟩
      · obtain rfl : j = n := by omega
        go_wp2_with fail
        go_ret
        exact ⟨rfl, HBW.out⟩
theorem same_any (x : Ask) (v v' : Value) (w : World) (hx : AskV w x v) (hx' : AskV w x v') : Calls Tryd.prog 9 #[v, v'] w fun e w' => e = .returned (.bool true) ∧ Below w.heap.size w w' := same_all x.size x v v' w (Nat.le_refl _) hx hx'
end Go.Proofs.YtddcaabhbbdbpaaDoor
