/- Contract: the document's Frames. -/
import Derived.Test.YtkemlckmfgacdaaGreatDoorJnP48
import Derived.Deep.RegionHeld3
namespace Go.Proofs.YtkemlckmfgacdaaGreatDoor
set_option maxRecDepth 20000
set_option maxHeartbeats 64000000
open Go.ChangeShapes Go.WideShapes Go.ChangeAt Go.RowKit
set_option linter.unusedVariables false
set_option linter.unusedSimpArgs false
open Tp Jm Ev
theorem frames_pos (b : Bs) (a : Option Addr) (n cap : Nat) (w : World) (hn : b.length = n) (hn0 : 0 < n) (h600 : n ≤ 600) (hcap : n ≤ cap) (hmax : cap ≤ 9223372036854775807) (hb : BytA w a b) : Calls Tryz.prog 23 #[.slice a n cap] w (CutQ w (iter b (n + 1) ([], 0))) := by
 obtain ⟨H, hH⟩ : ∃ H, w.heap.size = H := ⟨_, rfl⟩
 have HH := hid hH
 obtain ⟨R, hR⟩ : ∃ R, iter b (n + 1) ([], 0) = R := ⟨_, rfl⟩
 have HR0 := hid hR
 obtain ⟨bl, off, rfl, hbl, -⟩ := hb.vals (by rw [u8s_len]; omega)
 have HBY : Hid (∀ W, Below H w W → BytA W (some ⟨bl, off, none⟩) b) := hid (fun W h => hb.below (by rw [hH]; exact h))
 have HN := hid hn
 have HMX := hid hmax
 rw [hR]
 clear hH hR hbl hb hn hmax
 go_enter Tryz.func23, Tryz.ntmps23
 go_wp2_with fail
 go_loopg [4, 5] (n + 1) (fun g x y wr => ∃ (L : List Evt) (vs : List Value) (i : Nat), y = .int .i64 (i : Int) ∧ Hid (EvsQ H wr x L vs) ∧ Hid (iter b g (L, i) = R) ∧ Hid (i ≤ n ∧ n - i < g ∧ 10 * L.length ≤ i) ∧ Hid (Below H w wr))
 case atStart => exact ⟨[], [], 0, rfl, hid (EvsQ.nil _ _), HR0, hid ⟨by omega, by omega, by simp⟩, hid (Below.refl _ _)⟩
 case round =>
  obtain ⟨L, vs, i, rfl, HL, HI, HA, HB⟩ := hrel
  obtain ⟨hin, hig, hil⟩ := HA.out
  obtain ⟨q, hq⟩ : ∃ q, gk = q + 1 := ⟨gk - 1, by omega⟩
  have HQ := hid hq
  have HIG := hid hig
  have HIL := hid hil
  have HIN := hid hin
  have hi0 : (0 : Int) ≤ (i : Int) := by omega
  have hwi2 : IntKind.i64.wrap ((i : Int) + 2) = (i : Int) + 2 := IntWalk.i64_in _ (by omega)
  obtain ⟨m, hm⟩ : ∃ m, n - i = m := ⟨_, rfl⟩
  have hdl : (b.drop i).length = m := by rw [List.length_drop, HN.out, hm]
  have HM := hid hm
  have HDL := hid hdl
  have hm6 : m ≤ 600 := by omega
  by_cases h2 : m < 2
  ·have HST : Hid (R = (L, i)) := hid (by rw [← HI.out, HQ.out]; exact iter_stop (next_short (by rw [HDL.out]; exact h2)))
   have h2' : ¬ (i : Int) + 2 ≤ (n : Int) := by omega
   clear h2 hm hdl hq hig hin hil
   go_wp2_with fail
   go_ret2
   rw [HST.out]
   exact CutQ.mk' HH.out HL.out HB.out
  have h2' : (i : Int) + 2 ≤ (n : Int) := by omega
  have H2 : Hid (¬ (b.drop i).length < 2) := hid (by rw [HDL.out]; exact h2)
  obtain ⟨c, d, hc, hd, hnum⟩ := two_num H2.out
  rw [List.getElem?_drop, Nat.add_zero] at hc
  rw [List.getElem?_drop] at hd
  obtain ⟨b9, o9, he9, hblr, hcells⟩ := (HBY.out wr HB.out).cell hc
  injection he9 with he9
  injection he9 with hx9 hy9
  subst hx9 hy9
  have hcell0 : wr.cell? ⟨bl, off + i, none⟩ = some (.int .u8 (c.toNat : Int)) := hcells i c hc
  have hcell1 : wr.cell? ⟨bl, off + (i + 1), none⟩ = some (.int .u8 (d.toNat : Int)) := hcells (i + 1) d hd
  obtain ⟨z, hz⟩ : ∃ z : Int, (c.toNat : Int) = z := ⟨_, rfl⟩
  obtain ⟨y, hy⟩ : ∃ z : Int, (d.toNat : Int) = z := ⟨_, rfl⟩
  obtain ⟨N, hN⟩ : ∃ N, num ((b.drop i).take 2) = N := ⟨_, rfl⟩
  have hz0 : 0 ≤ z := by omega
  have hz1 : z < 256 := by have := c.toNat_lt; omega
  have hy0 : 0 ≤ y := by omega
  have hy1 : y < 256 := by have := d.toNat_lt; omega
  have hzy : z * 256 + y = (N : Int) := by rw [← hz, ← hy, ← hN, hnum]; omega
  have hN16 : N < 65536 := by omega
  have hw1 : IntKind.i64.wrap (z * 256) = z * 256 := IntWalk.i64_in _ (by omega)
  have hw2 : IntKind.i64.wrap (z * 256 + y) = (N : Int) := by rw [hzy]; exact IntWalk.i64_in _ (by omega)
  have hwi1 : IntKind.i64.wrap ((i : Int) + 1) = ((i + 1 : Nat) : Int) := by rw [IntWalk.i64_in _ (by omega)]; omega
  have hw3 : IntKind.i64.wrap ((i : Int) + 2 + (N : Int)) = (i : Int) + 2 + (N : Int) := IntWalk.i64_in _ (by omega)
  have hw4 : IntKind.i64.wrap ((i : Int) + 2 + (N : Int) + 8) = (i : Int) + 2 + (N : Int) + 8 := IntWalk.i64_in _ (by omega)
  have hin1 : (i : Int) < (n : Int) := by omega
  have hi10 : (0 : Int) ≤ ((i + 1 : Nat) : Int) := by omega
  have hi11 : ((i + 1 : Nat) : Int) < (n : Int) := by omega
  have HNM : Hid (num ((b.drop i).take 2) = N) := hid hN
  rw [hz] at hcell0
  rw [hy] at hcell1
  clear hc hd hnum hcells hz hy hN hzy hm hdl hq hig hin hil
  go_upto_region 4 with fail
  go_upto_region 5 with (go_quiet (fail))
  clear hcell0 hcell1 hw1 hw2 hz0 hz1 hy0 hy1 hi10 hi11
  obtain ⟨W1, hW1⟩ : ∃ W, W = wr.drewN nq := ⟨_, rfl⟩
  have hb1 : Below wr.heap.size wr W1 := by rw [hW1]; exact below_drewN (Below.refl _ _) nq
  have HB1 : Hid (Below H w W1) := hid (HB.out.trans (hb1.mono (by rw [← HH.out]; exact HB.out.size)))
  have HL1 := hid (HL.out.step hb1)
  have HX1 : Hid (∀ k, u4.ownBlock = some k → k < W1.heap.size) := hid (fun k hk => Nat.lt_of_lt_of_le ((HL.out.own.lt k hk).2) hb1.size)
  rw [← hW1]
  clear hW1 hb1 hblr
  by_cases h10 : m < N + 10
  ·have HST : Hid (R = (L, i)) := hid (by rw [← HI.out, HQ.out]; exact iter_stop (next_cut H2.out HNM.out (by rw [HDL.out]; exact h10)))
   have h10' : (n : Int) < (i : Int) + 2 + (N : Int) + 8 := by have := HM.out; have := HIN.out; omega
   clear h10
   go_wp2_with fail
   go_ret2
   rw [HST.out]
   exact CutQ.mk' HH.out HL1.out HB1.out
  have h10' : ¬ (n : Int) < (i : Int) + 2 + (N : Int) + 8 := by have := HM.out; have := HIN.out; omega
  have H10 : Hid (¬ (b.drop i).length < N + 10) := hid (by rw [HDL.out]; exact h10)
  have hc2n : ¬ cap = i + 2 := by have := HM.out; have := HIN.out; omega
  obtain ⟨I2, hI2⟩ : ∃ k : Nat, i + 2 = k := ⟨_, rfl⟩
  have hI2i : (i : Int) + 2 = (I2 : Int) := by omega
  have hI3 : (I2 : Int) ≤ (I2 : Int) + (N : Int) := by omega
  have hI4 : (I2 : Int) + (N : Int) ≤ (cap : Int) := by have := HM.out; have := HIN.out; omega
  have hI5 : (0 : Int) ≤ (I2 : Int) := by omega
  go_upto_region 6 with fail
  clear h2' h10 h10' hin1 hwi1 hwi2 hw4 hN16 hm6 h2
  rw [hI2i]
  have HCX := hid (show cap ≤ 9223372036854775807 from HMX.out)
  obtain ⟨s, hs⟩ : ∃ s, ((b.drop i).drop 2).take N = s := ⟨_, rfl⟩
  have hsl : s.length = N := by rw [← hs, List.length_take, List.length_drop]; have := H10.out; omega
  have hds : (b.drop I2).take N = s := by rw [← hs, List.drop_drop, hI2]
  have hN6 : N ≤ 590 := by have := H10.out; have := HDL.out; have := HM.out; omega
  have HDE0 := eventOf_any s (some ⟨bl, off + I2, none⟩) N (cap - I2) W1 hsl (.inl (by omega)) (by omega) (by have := HCX.out; omega) (by rw [← hds]; exact ((HBY.out W1 HB1.out).drop I2).take N)
  rw [if_neg (by omega), if_neg (by omega)] at HDE0
  have HDE := hid HDE0
  have HSS := hid hs
  clear hs hsl hds HDE0 hN6
  cases hO : rd s with
  | none =>
   rw [hO] at HDE
   have HST : Hid (R = (L, i)) := hid (by rw [← HI.out, HQ.out]; exact iter_stop (next_bad H2.out HNM.out H10.out (by rw [HSS.out]; exact hO)))
   clear hO
   go_wp2_with fail
   refine Calls.mono HDE.out ?_
   rintro e W2 ⟨hbn, he2⟩
   unfold evVal at he2
   obtain rfl := he2
   have HB2 : Hid (Below H w W2) := hid (HB1.out.trans (hbn.mono (by rw [← HH.out]; exact HB1.out.size)))
   have HL2 := hid (HL1.out.step hbn)
   clear hbn
   go_upto_region 7 with fail
   obtain ⟨W3, hW3⟩ : ∃ W, W2.alloc (.cells #[.int .i64 0, .string ⟨#[]⟩, .int .i64 0, .int .i64 0, .int .i64 0, .int .i64 0, .int .i64 0, .string ⟨#[]⟩, .string ⟨#[]⟩, .int .i64 0, .slice none 0 0, .slice none 0 0, .int .i64 0, .int .i64 0, .bool false] 40) = W := ⟨_, rfl⟩
   have hbn : Below W2.heap.size W2 W3 := be0 hW3.symm
   have HB3 : Hid (Below H w W3) := hid (HB2.out.trans (hbn.mono (by rw [← HH.out]; exact HB2.out.size)))
   have HL3 := hid (HL2.out.step hbn)
   rw [hW3]
   clear hbn hW3
   refine wp_region_held_drew (S := fun W => Below W3.heap.size W3 W) (by kernel_rfl) ((Below.refl _ _).drew) (fun hHeld => ?_)
   refine wpAnyH_take (i := 0) (v := ?vb1b0x1) rfl (by kernel_rfl) (by kernel_rfl) (by kernel_rfl) (fun _ _ _ h => h) (Or.inl ⟨by rfl, ?hyb1b0x1⟩) (by assumption) ?restb1b0x1
   case hyb1b0x1 =>
    intro w hSw
    (try dsimp only at hSw)
    go_simp
    (try with_reducible rfl)
   change wpAnyH _ _ _ _ _ _ _ (Act.put _ (some 47) _) _
   try simp only [Act.put, qa1, qa2, qa3]
   refine wpAnyH_take (i := 1) (v := ?vb1b1x2) rfl (by kernel_rfl) (by kernel_rfl) (by kernel_rfl) (fun _ _ _ h => h) (Or.inl ⟨by rfl, ?hyb1b1x2⟩) (by assumption) ?restb1b1x2
   case hyb1b1x2 =>
    intro w hSw
    (try dsimp only at hSw)
    go_simp
    (try with_reducible rfl)
   change wpAnyH _ _ _ _ _ _ _ (Act.put _ (some 48) _) _
   try simp only [Act.put, qa1, qa2, qa3]
   refine wpAnyH_take (i := 2) (v := ?vb1b2x3) rfl (by kernel_rfl) (by kernel_rfl) (by kernel_rfl) (fun _ _ _ h => h) (Or.inl ⟨by rfl, ?hyb1b2x3⟩) (by assumption) ?restb1b2x3
   case hyb1b2x3 =>
    intro w hSw
    (try dsimp only at hSw)
    go_simp
    (try with_reducible rfl)
   change wpAnyH _ _ _ _ _ _ _ (Act.put _ (some 49) _) _
   try simp only [Act.put, qa1, qa2, qa3]
   refine wpAnyH_take (i := 3) (v := undef) rfl (by kernel_rfl) (by kernel_rfl) (by kernel_rfl) (fun _ _ _ h => h) (Or.inr ⟨by rfl, rfl⟩) (by assumption) ?_
   change wpAnyH _ _ _ _ _ _ _ (Act.put _ (some 50) _) _
   try simp only [Act.put, qa1, qa2, qa3]
   refine wpAnyH_take (i := 4) (v := undef) rfl (by kernel_rfl) (by kernel_rfl) (by kernel_rfl) (fun _ _ _ h => h) (Or.inr ⟨by rfl, rfl⟩) (by assumption) ?_
   change wpAnyH _ _ _ _ _ _ _ (Act.put _ (some 51) _) _
   try simp only [Act.put, qa1, qa2, qa3]
   refine wpAnyH_take (i := 5) (v := undef) rfl (by kernel_rfl) (by kernel_rfl) (by kernel_rfl) (fun _ _ _ h => h) (Or.inr ⟨by rfl, rfl⟩) (by assumption) ?_
   change wpAnyH _ _ _ _ _ _ _ (Act.put _ (some 52) _) _
   try simp only [Act.put, qa1, qa2, qa3]
   refine wpAnyH_take (i := 6) (v := undef) rfl (by kernel_rfl) (by kernel_rfl) (by kernel_rfl) (fun _ _ _ h => h) (Or.inr ⟨by rfl, rfl⟩) (by assumption) ?_
   change wpAnyH _ _ _ _ _ _ _ (Act.put _ (some 53) _) _
   try simp only [Act.put, qa1, qa2, qa3]
   refine wpAnyH_take (i := 7) (v := undef) rfl (by kernel_rfl) (by kernel_rfl) (by kernel_rfl) (fun _ _ _ h => h) (Or.inr ⟨by rfl, rfl⟩) (by assumption) ?_
   change wpAnyH _ _ _ _ _ _ _ (Act.put _ (some 54) _) _
   try simp only [Act.put, qa1, qa2, qa3]
   refine wpAnyH_take (i := 8) (v := undef) rfl (by kernel_rfl) (by kernel_rfl) (by kernel_rfl) (fun _ _ _ h => h) (Or.inr ⟨by rfl, rfl⟩) (by assumption) ?_
   change wpAnyH _ _ _ _ _ _ _ (Act.put _ (some 55) _) _
   try simp only [Act.put, qa1, qa2, qa3]
   refine wpAnyH_take (i := 9) (v := undef) rfl (by kernel_rfl) (by kernel_rfl) (by kernel_rfl) (fun _ _ _ h => h) (Or.inr ⟨by rfl, rfl⟩) (by assumption) ?_
   change wpAnyH _ _ _ _ _ _ _ (Act.put _ (some 56) _) _
   try simp only [Act.put, qa1, qa2, qa3]
   refine wpAnyH_take (i := 10) (v := undef) rfl (by kernel_rfl) (by kernel_rfl) (by kernel_rfl) (fun _ _ _ h => h) (Or.inr ⟨by rfl, rfl⟩) (by assumption) ?_
   change wpAnyH _ _ _ _ _ _ _ (Act.put _ (some 57) _) _
   try simp only [Act.put, qa1, qa2, qa3]
   refine wpAnyH_take (i := 11) (v := undef) rfl (by kernel_rfl) (by kernel_rfl) (by kernel_rfl) (fun _ _ _ h => h) (Or.inr ⟨by rfl, rfl⟩) (by assumption) ?_
   change wpAnyH _ _ _ _ _ _ _ (Act.put _ (some 58) _) _
   try simp only [Act.put, qa1, qa2, qa3]
   refine wpAnyH_take (i := 12) (v := undef) rfl (by kernel_rfl) (by kernel_rfl) (by kernel_rfl) (fun _ _ _ h => h) (Or.inr ⟨by rfl, rfl⟩) (by assumption) ?_
   change wpAnyH _ _ _ _ _ _ _ (Act.put _ (some 59) _) _
   try simp only [Act.put, qa1, qa2, qa3]
   refine wpAnyH_take (i := 13) (v := undef) rfl (by kernel_rfl) (by kernel_rfl) (by kernel_rfl) (fun _ _ _ h => h) (Or.inr ⟨by rfl, rfl⟩) (by assumption) ?_
   change wpAnyH _ _ _ _ _ _ _ (Act.put _ (some 60) _) _
   try simp only [Act.put, qa1, qa2, qa3]
   refine wpAnyH_take (i := 14) (v := undef) rfl (by kernel_rfl) (by kernel_rfl) (by kernel_rfl) (fun _ _ _ h => h) (Or.inr ⟨by rfl, rfl⟩) (by assumption) ?_
   change wpAnyH _ _ _ _ _ _ _ (Act.put _ (some 61) _) _
   try simp only [Act.put, qa1, qa2, qa3]
   refine wpAnyH_take (i := 15) (v := ?vb1b15x4) rfl (by kernel_rfl) (by kernel_rfl) (by kernel_rfl) (fun _ _ _ h => h) (Or.inl ⟨by rfl, ?hyb1b15x4⟩) (by assumption) ?restb1b15x4
   case hyb1b15x4 =>
    intro w hSw
    (try dsimp only at hSw)
    go_simp
    (try with_reducible rfl)
   change wpAnyH _ _ _ _ _ _ _ (Act.put _ (some 62) _) _
   try simp only [Act.put, qa1, qa2, qa3]
   refine wpAnyH_done (by kernel_rfl) ?_ _
   have HB4 : Hid (Below H w W3.drew) := hid HB3.out.drew
   have HL4 : Hid (EvsQ H W3.drew u4 L vs) := hid (HL3.out.step (Below.refl _ _).drew)
   go_wp2_with fail
   go_ret2
   rw [HST.out]
   exact CutQ.mk' HH.out HL4.out HB4.out
  | some y =>
   rw [hO] at HDE
   have hyf := (rd_bytes hO).1
   have HRD : Hid (rd (((b.drop i).drop 2).take N) = some y) := hid (by rw [HSS.out]; exact hO)
   have HYF := hid hyf
   clear hO hyf
   go_wp2_with fail
   refine Calls.mono HDE.out ?_
   rintro e W2 ⟨hbn, u, rfl, hun⟩
   obtain ⟨yk, yu, yp, ya, yb, yc, y0, y1, y2, y3, yd, yl, ye9, ye, yn, ym, yN, yI, yO, rfl⟩ := hun.toV.form
   have HB2 : Hid (Below H w W2) := hid (HB1.out.trans (hbn.mono (by rw [← HH.out]; exact HB1.out.size)))
   have HL2 := hid (HL1.out.step hbn)
   have HU2 := hid hun.toP
   clear hbn hun
   obtain ⟨W3, hW3⟩ : ∃ W, W2.alloc (.cells #[.int .i64 yk, .string yu, .int .i64 yp, .int .i64 ya, .int .i64 yb, .int .i64 yc, .int .i64 y0, .string y1, .string y2, .int .i64 y3, .slice yd yl ye9, .slice ye yn ym, .int .i64 yN, .int .i64 yI, .bool yO] 40) = W := ⟨_, rfl⟩
   obtain ⟨g, hg⟩ : ∃ d, d = W2.heap.size := ⟨_, rfl⟩
   have hbn : Below W2.heap.size W2 W3 := be0 hW3.symm
   have HY3 : Hid (BoxV g [.int .i64 yk, .string yu, .int .i64 yp, .int .i64 ya, .int .i64 yb, .int .i64 yc, .int .i64 y0, .string y1, .string y2, .int .i64 y3, .slice yd yl ye9, .slice ye yn ym, .int .i64 yN, .int .i64 yI, .bool yO] W3) := hid (by rw [← hW3]; exact BoxV.top _ hg)
   have HB3 : Hid (Below H w W3) := hid (HB2.out.trans (hbn.mono (by rw [← HH.out]; exact HB2.out.size)))
   have HL3 := hid (HL2.out.step hbn)
   have HU3 := hid (HU2.out.keep (fun b h => (⟨h.1, Nat.lt_of_lt_of_le h.2 hbn.size⟩ : W1.heap.size ≤ b ∧ b < W3.heap.size)) hbn.size (fun b _ hlt => hbn.block b hlt))
   obtain ⟨F, hF⟩ : ∃ F, framed y.bytes = F := ⟨_, rfl⟩
   have HF := hid hF
   have HFD : Hid (∀ W, Below W3.heap.size W3 W → Calls Tryz.prog 25 #[.agg #[.int .i64 yk, .string yu, .int .i64 yp, .int .i64 ya, .int .i64 yb, .int .i64 yc, .int .i64 y0, .string y1, .string y2, .int .i64 y3, .slice yd yl ye9, .slice ye yn ym, .int .i64 yN, .int .i64 yI, .bool yO]] W (BytQ W F)) := hid (fun W h => by rw [← hF]; exact framed_any y _ W HYF.out (HU3.out.toV.below h))
   obtain ⟨TS, hTS⟩ : ∃ t, bts ((b.drop i).take (N + 10)) = t := ⟨_, rfl⟩
   have hci : ¬ cap = i := by have := H10.out; have := HDL.out; have := HM.out; omega
   have HCV : Hid (∀ W, Below W3.heap.size W3 W → (convert 41 9 (.slice (some ⟨bl, off + i, none⟩) (N + 10) (cap - i))).run Tryz.prog W = .ok (.string TS) W) := hid (fun W h => by
    rw [← hTS]
    exact (((HBY.out W (HB3.out.trans (h.mono (by rw [← HH.out]; exact HB3.out.size)))).drop i).take (N + 10)).text (by rw [List.length_take]; have := H10.out; omega) _)
   have HTS := hid hTS
   go_upto_region 7 with fail
   rw [← hg]
   clear hbn hW3 hg hF hTS
   obtain ⟨r0, r1, r2, r3, r4, r5, r6, r7, r8, r9, r10, r11, r12, r13, r14⟩ := HY3.out.c15
   have hgl := HY3.out.lt
   have hwa : IntKind.i64.wrap ((i : Int) + (N : Int)) = (i : Int) + (N : Int) := IntWalk.i64_in _ (by have := H10.out; have := HDL.out; have := HM.out; omega)
   obtain ⟨I10, hI10⟩ : ∃ k, i + (N + 10) = k := ⟨_, rfl⟩
   have hwb : IntKind.i64.wrap ((i : Int) + (N : Int) + 10) = (I10 : Int) := by rw [IntWalk.i64_in _ (by have := H10.out; have := HDL.out; have := HM.out; omega)]; omega
   have hsa : (i : Int) ≤ (I10 : Int) := by omega
   have hs0 : (0 : Int) ≤ (I10 : Int) := by omega
   have hsn : i ≤ I10 := by omega
   have hsb : (I10 : Int) ≤ (cap : Int) := by have := H10.out; have := HDL.out; have := HM.out; omega
   have hsd : I10 ≤ cap := by omega
   have hsc : I10 - i = N + 10 := by omega
   refine wp_region_held_drew (S := fun W => Below W3.heap.size W3 W) (by kernel_rfl) ((Below.refl _ _).drew) (fun hHeld => ?_)
   refine wpAnyH_take (i := 0) (v := ?vb2b0x1) rfl (by kernel_rfl) (by kernel_rfl) (by kernel_rfl) (fun _ _ _ h => h) (Or.inl ⟨by rfl, ?hyb2b0x1⟩) (by assumption) ?restb2b0x1
   case hyb2b0x1 =>
    intro w hSw
    (try dsimp only at hSw)
    go_simp
    (try with_reducible rfl)
   change wpAnyH _ _ _ _ _ _ _ (Act.put _ (some 47) _) _
   try simp only [Act.put, qa1, qa2, qa3]
   refine wpAnyH_take (i := 1) (v := ?vb2b1x2) rfl (by kernel_rfl) (by kernel_rfl) (by kernel_rfl) (fun _ _ _ h => h) (Or.inl ⟨by rfl, ?hyb2b1x2⟩) (by assumption) ?restb2b1x2
   case hyb2b1x2 =>
    intro w hSw
    (try dsimp only at hSw)
    go_simp
    (try with_reducible rfl)
   change wpAnyH _ _ _ _ _ _ _ (Act.put _ (some 48) _) _
   try simp only [Act.put, qa1, qa2, qa3]
   refine wpAnyH_take (i := 2) (v := ?vb2b2x3) rfl (by kernel_rfl) (by kernel_rfl) (by kernel_rfl) (fun _ _ _ h => h) (Or.inl ⟨by rfl, ?hyb2b2x3⟩) (by assumption) ?restb2b2x3
   case hyb2b2x3 =>
    intro w hSw
    (try dsimp only at hSw)
    go_simp
    (try with_reducible rfl)
   change wpAnyH _ _ _ _ _ _ _ (Act.put _ (some 49) _) _
   try simp only [Act.put, qa1, qa2, qa3]
   refine wpAnyH_take (i := 3) (v := ?vb2b3x4) rfl (by kernel_rfl) (by kernel_rfl) (by kernel_rfl) (fun _ _ _ h => h) (Or.inl ⟨by rfl, ?hyb2b3x4⟩) (by assumption) ?restb2b3x4
   case hyb2b3x4 =>
    intro w hSw
    (try dsimp only at hSw)
    have r0 := (hSw.cell (p := ⟨g, 0, none⟩) hgl).trans r0
    have r1 := (hSw.cell (p := ⟨g, 1, none⟩) hgl).trans r1
    have r2 := (hSw.cell (p := ⟨g, 2, none⟩) hgl).trans r2
    have r3 := (hSw.cell (p := ⟨g, 3, none⟩) hgl).trans r3
    have r4 := (hSw.cell (p := ⟨g, 4, none⟩) hgl).trans r4
    have r5 := (hSw.cell (p := ⟨g, 5, none⟩) hgl).trans r5
    have r6 := (hSw.cell (p := ⟨g, 6, none⟩) hgl).trans r6
    have r7 := (hSw.cell (p := ⟨g, 7, none⟩) hgl).trans r7
    have r8 := (hSw.cell (p := ⟨g, 8, none⟩) hgl).trans r8
    have r9 := (hSw.cell (p := ⟨g, 9, none⟩) hgl).trans r9
    have r10 := (hSw.cell (p := ⟨g, 10, none⟩) hgl).trans r10
    have r11 := (hSw.cell (p := ⟨g, 11, none⟩) hgl).trans r11
    have r12 := (hSw.cell (p := ⟨g, 12, none⟩) hgl).trans r12
    have r13 := (hSw.cell (p := ⟨g, 13, none⟩) hgl).trans r13
    have r14 := (hSw.cell (p := ⟨g, 14, none⟩) hgl).trans r14
    go_simp
    (try with_reducible rfl)
   change wpAnyH _ _ _ _ _ _ _ (Act.put _ (some 50) _) _
   try simp only [Act.put, qa1, qa2, qa3]
   refine wpAnyH_take (i := 6) (v := ?vb2b6x5) rfl (by kernel_rfl) (by kernel_rfl) (by kernel_rfl) (fun _ _ _ h => h) (Or.inl ⟨by rfl, ?hyb2b6x5⟩) (by assumption) ?restb2b6x5
   case hyb2b6x5 =>
    intro w hSw
    (try dsimp only at hSw)
    go_simp
    (try with_reducible rfl)
   change wpAnyH _ _ _ _ _ _ _ (Act.put _ (some 53) _) _
   try simp only [Act.put, qa1, qa2, qa3]
   refine wpAnyH_take (i := 7) (v := ?vb2b7x6) rfl (by kernel_rfl) (by kernel_rfl) (by kernel_rfl) (fun _ _ _ h => h) (Or.inl ⟨by rfl, ?hyb2b7x6⟩) (by assumption) ?restb2b7x6
   case hyb2b7x6 =>
    intro w hSw
    (try dsimp only at hSw)
    go_simp
    (try with_reducible rfl)
   change wpAnyH _ _ _ _ _ _ _ (Act.put _ (some 54) _) _
   try simp only [Act.put, qa1, qa2, qa3]
   refine wpAnyH_take (i := 8) (v := ?vb2b8x7) rfl (by kernel_rfl) (by kernel_rfl) (by kernel_rfl) (fun _ _ _ h => h) (Or.inl ⟨by rfl, ?hyb2b8x7⟩) (by assumption) ?restb2b8x7
   case hyb2b8x7 =>
    intro w hSw
    (try dsimp only at hSw)
    go_simp
    (try with_reducible rfl)
   change wpAnyH _ _ _ _ _ _ _ (Act.put _ (some 55) _) _
   try simp only [Act.put, qa1, qa2, qa3]
   refine wpAnyH_take (i := 9) (v := ?vb2b9x8) rfl (by kernel_rfl) (by kernel_rfl) (by kernel_rfl) (fun _ _ _ h => h) (Or.inl ⟨by rfl, ?hyb2b9x8⟩) (by assumption) ?restb2b9x8
   case hyb2b9x8 =>
    intro w hSw
    (try dsimp only at hSw)
    go_simp
    (try with_reducible rfl)
   change wpAnyH _ _ _ _ _ _ _ (Act.put _ (some 56) _) _
   try simp only [Act.put, qa1, qa2, qa3]
   refine wpAnyH_take (i := 10) (v := ?vb2b10x9) rfl (by kernel_rfl) (by kernel_rfl) (by kernel_rfl) (fun _ _ _ h => h) (Or.inl ⟨by rfl, ?hyb2b10x9⟩) (by assumption) ?restb2b10x9
   case hyb2b10x9 =>
    intro w hSw
    (try dsimp only at hSw)
    go_simp
    (try with_reducible rfl)
   change wpAnyH _ _ _ _ _ _ _ (Act.put _ (some 57) _) _
   try simp only [Act.put, qa1, qa2, qa3]
   refine wpAnyH_take (i := 11) (v := ?vb2b11x10) rfl (by kernel_rfl) (by kernel_rfl) (by kernel_rfl) (fun _ _ _ h => h) (Or.inl ⟨by rfl, ?hyb2b11x10⟩) (by assumption) ?restb2b11x10
   case hyb2b11x10 =>
    intro w hSw
    (try dsimp only at hSw)
    go_simp
    (try with_reducible rfl)
   change wpAnyH _ _ _ _ _ _ _ (Act.put _ (some 58) _) _
   try simp only [Act.put, qa1, qa2, qa3]
   refine wpAnyH_take (i := 12) (v := ?vb2b12x11) rfl (by kernel_rfl) (by kernel_rfl) (by kernel_rfl) (fun _ _ _ h => h) (Or.inl ⟨by rfl, ?hyb2b12x11⟩) (by assumption) ?restb2b12x11
   case hyb2b12x11 =>
    intro w hSw
    (try dsimp only at hSw)
    go_simp
    (try with_reducible rfl)
   change wpAnyH _ _ _ _ _ _ _ (Act.put _ (some 59) _) _
   try simp only [Act.put, qa1, qa2, qa3]
   refine wpAnyH_take (i := 13) (v := ?vb2b13x12) rfl (by kernel_rfl) (by kernel_rfl) (by kernel_rfl) (fun _ _ _ h => h) (Or.inl ⟨by rfl, ?hyb2b13x12⟩) (by assumption) ?restb2b13x12
   case hyb2b13x12 =>
    intro w hSw
    (try dsimp only at hSw)
    go_simp
    rw [HCV.out w hSw]
    exact rfl
    (try with_reducible rfl)
   change wpAnyH _ _ _ _ _ _ _ (Act.put _ (some 60) _) _
   try simp only [Act.put, qa1, qa2, qa3]
   refine wpAnyH_ready (rs := [4]) (by kernel_rfl) (by simp) ?_
   refine AllReadyH.cons rfl (fun K hK => ?_) AllReadyH.nil
   go_simp
   refine Calls.mono (HFD.out _ hHeld) ?_
   rintro e W4 ⟨v5, rfl, hown, hb4⟩
   obtain ⟨a5, c5, rfl, -, -, hby, -⟩ := hown.form
   (try go_wp2_with fail)
   refine hK.out _ _ (hHeld.trans (hb4.mono hHeld.size)) (fun hHeld => ?_)
   clear hK K
   try simp only [Act.put, qa1, qa2, qa3]
   obtain ⟨fn, hfn⟩ : ∃ n, F.length = n := ⟨_, rfl⟩
   have hcf := hby.text hfn c5
   obtain ⟨FS, hFS⟩ : ∃ t, bts F = t := ⟨_, rfl⟩
   rw [hFS] at hcf
   rw [hfn]
   refine wpAnyH_ready (rs := [5]) (by kernel_rfl) (by simp) ?_
   refine AllReadyH.cons rfl (fun K hK => ?_) AllReadyH.nil
   go_simp
   (try go_wp2_with fail)
   refine hK.out _ _ (hHeld) (fun hHeld => ?_)
   clear hK K
   try simp only [Act.put, qa1, qa2, qa3]
   obtain ⟨qq, hqq⟩ : ∃ t, (FS.toList == TS.toList) = t := ⟨_, rfl⟩
   have HQQ : Hid (decide (F = (b.drop i).take (N + 10)) = qq) := hid (by rw [← hqq, ← hFS, ← HTS.out, bts_eq])
   refine wpAnyH_take (i := 14) (v := ?vb2b14x13) rfl (by kernel_rfl) (by kernel_rfl) (by kernel_rfl) (fun _ _ _ h => h) (Or.inl ⟨by rfl, ?hyb2b14x13⟩) (by assumption) ?restb2b14x13
   case hyb2b14x13 =>
    intro w hSw
    (try dsimp only at hSw)
    go_simp
    (try simp only [bne, hqq])
    exact rfl
    (try with_reducible rfl)
   change wpAnyH _ _ _ _ _ _ _ (Act.put _ (some 61) _) _
   try simp only [Act.put, qa1, qa2, qa3]
   refine wpAnyH_take (i := 15) (v := ?vb2b15x14) rfl (by kernel_rfl) (by kernel_rfl) (by kernel_rfl) (fun _ _ _ h => h) (Or.inl ⟨by rfl, ?hyb2b15x14⟩) (by assumption) ?restb2b15x14
   case hyb2b15x14 =>
    intro w hSw
    (try dsimp only at hSw)
    go_simp
    (try with_reducible rfl)
   change wpAnyH _ _ _ _ _ _ _ (Act.put _ (some 62) _) _
   try simp only [Act.put, qa1, qa2, qa3]
   refine wpAnyH_done (by kernel_rfl) ?_ _
   have HB4 : Hid (Below H w W4) := hid (HB3.out.trans (hHeld.mono (by rw [← HH.out]; exact HB3.out.size)))
   have HL4 := hid (HL3.out.step hHeld)
   have HU4 := hid (HU3.out.keep (fun b h => (⟨h.1, Nat.lt_of_lt_of_le h.2 hHeld.size⟩ : W1.heap.size ≤ b ∧ b < W4.heap.size)) hHeld.size (fun b _ hlt => hHeld.block b hlt))
   have HY4 := hid (HY3.out.step hHeld)
   clear hHeld hqq hFS hcf hfn hby hown hb4 hgl r0 r1 r2 r3 r4 r5 r6 r7 r8 r9 r10 r11 r12 r13 r14
   obtain ⟨r0, r1, r2, r3, r4, r5, r6, r7, r8, r9, r10, r11, r12, r13, r14⟩ := HY4.out.c15
   have hgl := HY4.out.lt
   cases qq with
   | false =>
    have HST : Hid (R = (L, i)) := hid (by rw [← HI.out, HQ.out]; exact iter_stop (by rw [next_at H2.out HNM.out H10.out HRD.out, HF.out]; exact if_neg (of_decide_eq_false HQQ.out)))
    go_wp2_with fail
    go_ret2
    rw [HST.out]
    exact CutQ.mk' HH.out HL4.out HB4.out
   | true =>
    have HGO : Hid (iter b (q + 1) (L, i) = iter b q (L ++ [y], i + (N + 10))) := hid (iter_go (by rw [next_at H2.out HNM.out H10.out HRD.out, HF.out]; exact if_pos (of_decide_eq_true HQQ.out)))
    obtain ⟨xa, xc9, hxf, hxc, -, -⟩ := ownForm HL4.out.own
    obtain ⟨ln, hln⟩ : ∃ l, L.length = l := ⟨_, rfl⟩
    subst hxf
    have HLN := hid hln
    have hl9 : ln ≤ 1000 := by have := HIL.out; have := HIN.out; omega
    have HOWN : Hid (W4.ownsRow H 40 15 (.slice xa ln xc9) ln (vs.flatMap cel)) := hid (by have h := HL4.out.own; rw [hln] at h; exact h)
    have HL5 : Hid (EvsQ H W4 (.slice xa ln xc9) L vs) := hid (by have h := HL4.out; rw [hln] at h; exact h)
    have HX5 : Hid (∀ k, (Value.slice xa ln xc9).ownBlock = some k → k < W1.heap.size) := hid (by have h := HX1.out; rw [hln] at h; exact h)
    have hszw : H ≤ W4.heap.size := by rw [← HH.out]; exact HB4.out.size
    have hw5 : IntKind.i64.wrap ((i : Int) + ((N : Int) + 10)) = ((i + (N + 10) : Nat) : Int) := by rw [IntWalk.i64_in _ (by omega)]; omega
    have hw6 : IntKind.i64.wrap ((N : Int) + 10) = (N : Int) + 10 := IntWalk.i64_in _ (by omega)
    rw [hln]
    clear hln
    go_wp2_with (at_builtin; go_loud (refine wpList_pushN W4 (by rfl) (.tmp 63) (.tmp 65) 51 (by rfl) H 40 (.agg #[.int .i64 0, .string ⟨#[]⟩, .int .i64 0, .int .i64 0, .int .i64 0, .int .i64 0, .int .i64 0, .string ⟨#[]⟩, .string ⟨#[]⟩, .int .i64 0, .slice none 0 0, .slice none 0 0, .int .i64 0, .int .i64 0, .bool false]) 15 176 Tryz.underlying51 infoEv (by rfl) (by decide) (.slice xa ln xc9) ln (vs.flatMap cel) [.int .i64 yk, .string yu, .int .i64 yp, .int .i64 ya, .int .i64 yb, .int .i64 yc, .int .i64 y0, .string y1, .string y2, .int .i64 y3, .slice yd yl ye9, .slice ye yn ym, .int .i64 yN, .int .i64 yI, .bool yO] _ rfl (by rfl) HOWN.out (by rfl) (by rfl) (by intro u hu; simp at hu; rcases hu with rfl | rfl | rfl | rfl | rfl | rfl | rfl | rfl | rfl | rfl | rfl | rfl | rfl | rfl | rfl <;> rfl) (by unfold maxLen; omega) (by omega) hszw ?_; intro gg cap3 w6 hown hgrow hgb hgl2; have HL6 : Hid (EvsQ H w6 (.slice (some ⟨gg, 0, none⟩) (ln + 1) cap3) (L ++ [y]) (vs ++ [.agg #[.int .i64 yk, .string yu, .int .i64 yp, .int .i64 ya, .int .i64 yb, .int .i64 yc, .int .i64 y0, .string y1, .string y2, .int .i64 y3, .slice yd yl ye9, .slice ye yn ym, .int .i64 yN, .int .i64 yI, .bool yO]])) := hid (by have h := HL5.out.push HX5.out HU4.out (g := gg) (cp := cap3) (w2 := w6) (by rw [HLN.out]; exact hown) hgrow hgb; rw [HLN.out] at h; exact h); have HB6 : Hid (Below H w w6) := hid (HB4.out.trans ((Below.refl H W4).grown hgrow hszw (ownBlock_ge HOWN.out lr))); clear hown hgrow hgb))
    go_roundg q
    case measure => (have := HQ.out; omega)
    case rel => exact ⟨L ++ [y], _, i + (N + 10), (by first | rfl | (refine congrArg (Value.int IntKind.i64) ?_; first | omega | (rw [hw6]; omega))), HL6, hid (by rw [← HGO.out, ← HQ.out]; exact HI.out), hid ⟨by have := H10.out; have := HDL.out; have := HM.out; omega, by have := HIG.out; have := HQ.out; have := H10.out; have := HDL.out; have := HM.out; omega, by rw [List.length_append, List.length_singleton]; have := HIL.out; omega⟩, HB6⟩
theorem frames_zero (a : Option Addr) (cap : Nat) (w : World) : Calls Tryz.prog 23 #[.slice a 0 cap] w (CutQ w (iter [] (0 + 1) ([], 0))) := by
 have HS : Hid (iter [] (0 + 1) ([], 0) = ([], 0)) := hid (iter_stop (next_short (by simp)))
 rw [HS.out]
 have hc0 : (0 : Int) ≤ (cap : Int) := by omega
 cases a with
 | none =>
  go_enter Tryz.func23, Tryz.ntmps23
  go_wp2_with fail
  go_rounds 1
  go_wp2_with fail
  go_ret2
  exact CutQ.mk' rfl (EvsQ.nil _ _) (Below.refl _ _)
 | some ad =>
  go_enter Tryz.func23, Tryz.ntmps23
  go_wp2_with fail
  go_rounds 1
  go_wp2_with fail
  go_ret2
  exact CutQ.mk' rfl (EvsQ.nil _ _) (Below.refl _ _)
theorem frames_any (b : Bs) (a : Option Addr) (n cap : Nat) (w : World) (hn : b.length = n) (h600 : n ≤ 600) (hcap : n ≤ cap) (hmax : cap ≤ 9223372036854775807) (hb : BytA w a b) : Calls Tryz.prog 23 #[.slice a n cap] w (CutQ w (iter b (n + 1) ([], 0))) := by
 by_cases h0 : 0 < n
 ·exact frames_pos b a n cap w hn h0 h600 hcap hmax hb
 ·obtain rfl : n = 0 := by omega
  obtain rfl : b = [] := List.eq_nil_of_length_eq_zero hn
  exact frames_zero a cap w
end Go.Proofs.YtkemlckmfgacdaaGreatDoor
