/- What readers of an event tell, its parts named; the document's reader at every text. -/
import Derived.Test.YtkemlckmfgacdaaGreatDoorJnP44
import Derived.Test.YtkemlckmfgacdaaGreatDoorJnP45
import Derived.Test.YtkemlckmfgacdaaGreatDoorJnP46
import Derived.Test.YtkemlckmfgacdaaGreatDoorJnP47
import Derived.Test.YtkemlckmfgacdaaGreatDoorJnP40
import Derived.Deep.LoopGhost
namespace Go.Proofs.YtkemlckmfgacdaaGreatDoor
set_option maxRecDepth 20000
set_option maxHeartbeats 64000000
open Go.ChangeShapes Go.WideShapes Go.ChangeAt Go.RowKit
set_option linter.unusedVariables false
set_option linter.unusedSimpArgs false
open Tp Jm Ev
def zE : Evt := ⟨0, zJb, 0, 0, false⟩
theorem zE_v (w : World) : EvV w zE (evVal 0 ⟨#[]⟩ 0 0 0 0 0 ⟨#[]⟩ ⟨#[]⟩ 0 none 0 0 none 0 0 0 0 false) := ⟨_, _, _, _, _, _, _, _, _, rfl, JobP.zero w⟩
theorem EvV.form {w : World} {x : Evt} {v : Value} (h : EvV w x v) : ∃ (yk : Int) (yu : ByteArray) (yp ya yb yc y0 : Int) (y1 y2 : ByteArray) (y3 : Int) (yd : Option Addr) (yl ye9 : Nat) (ye : Option Addr) (yn ym : Nat) (yN yI : Int) (yO : Bool), v = .agg #[.int .i64 yk, .string yu, .int .i64 yp, .int .i64 ya, .int .i64 yb, .int .i64 yc, .int .i64 y0, .string y1, .string y2, .int .i64 y3, .slice yd yl ye9, .slice ye yn ym, .int .i64 yN, .int .i64 yI, .bool yO] := by
 obtain ⟨x0, x1, x2, x3, xd, xl, xc, aa, ac, e, _⟩ := h
 exact ⟨_, _, _, _, _, _, _, _, _, _, _, _, _, _, _, _, _, _, _, e⟩
theorem DecQ.form {w w' : World} {O : Option Evt} {cd : Int} {e : Ending} (h : DecQ w O cd e w') : Below w.heap.size w w' ∧ ∃ (yk : Int) (yu : ByteArray) (yp ya yb yc y0 : Int) (y1 y2 : ByteArray) (y3 : Int) (yd : Option Addr) (yl ye9 : Nat) (ye : Option Addr) (yn ym : Nat) (yN yI : Int) (yO : Bool) (ec : Int), e = .returned (.tuple #[.agg #[.int .i64 yk, .string yu, .int .i64 yp, .int .i64 ya, .int .i64 yb, .int .i64 yc, .int .i64 y0, .string y1, .string y2, .int .i64 y3, .slice yd yl ye9, .slice ye yn ym, .int .i64 yN, .int .i64 yI, .bool yO], .int .i64 ec]) ∧ (ec = if O.isSome then 0 else cd) ∧ EvV w' (O.getD zE) (.agg #[.int .i64 yk, .string yu, .int .i64 yp, .int .i64 ya, .int .i64 yb, .int .i64 yc, .int .i64 y0, .string y1, .string y2, .int .i64 y3, .slice yd yl ye9, .slice ye yn ym, .int .i64 yN, .int .i64 yI, .bool yO]) := by
 obtain ⟨hb, h⟩ := h
 cases O with
 | none => exact ⟨hb, _, _, _, _, _, _, _, _, _, _, _, _, _, _, _, _, _, _, _, cd, h, rfl, zE_v w'⟩
 | some j =>
  obtain ⟨v, h1, h2⟩ := h
  obtain ⟨yk, yu, yp, ya, yb, yc, y0, y1, y2, y3, yd, yl, ye9, ye, yn, ym, yN, yI, yO, rfl⟩ := h2.toV.form
  exact ⟨hb, _, _, _, _, _, _, _, _, _, _, _, _, _, _, _, _, _, _, _, 0, h1, rfl, h2.toV⟩
theorem eventOf_any (s : Bs) (a : Option Addr) (n cap : Nat) (w : World) (hn : s.length = n) (hl : n ≤ 2001 ∨ 3001 < n) (hcap : n ≤ cap) (hmax : cap ≤ 9223372036854775807) (hs : BytA w a s) : Calls Tryz.prog 19 #[.slice a n cap] w (DecQ w (if 3001 < s.length then none else rd s) (if 3001 < s.length then 2 else 3)) := by
 by_cases hl3 : 3001 < s.length
 ·rw [if_pos hl3, if_pos hl3]; exact eventOf_long s a n cap w hn (by omega)
 rw [if_neg hl3, if_neg hl3]
 cases s with
 | nil =>
  obtain rfl : n = 0 := hn.symm
  exact eventOf_none a cap w
 | cons k r =>
  obtain rfl : n = r.length + 1 := hn.symm
  have hl2 : r.length ≤ 2000 := by simp at hl3; omega
  by_cases h1 : k.toNat = 1
  ·cases hO1 : rdA r with
   | none => exact eventOf_1n k r a _ cap w rfl hl2 hcap hmax hs h1 hO1
   | some j => exact eventOf_1y k r a _ cap w rfl hl2 hcap hmax hs h1 j hO1
  by_cases h2 : k.toNat = 2
  ·by_cases hr : r.length = 4
   ·exact eventOf_2y k r a _ cap w rfl hl2 hcap hmax hs h2 hr
   ·exact eventOf_2n k r a _ cap w rfl hl2 hcap hmax hs h2 hr
  by_cases h3 : k.toNat = 3
  ·by_cases hr : r.length = 0
   ·exact eventOf_3y k r a _ cap w rfl hl2 hcap hmax hs h3 hr
   ·exact eventOf_3n k r a _ cap w rfl hl2 hcap hmax hs h3 hr
  by_cases h4 : k.toNat = 4
  ·by_cases hr : r.length = 3
   ·obtain ⟨x, y, z, rfl⟩ := three hr
    by_cases hz : z.toNat ≤ 1
    ·exact eventOf_4y k _ a _ cap w rfl hl2 hcap hmax hs h4 hr (fun x' y' z' e => by injection e with _ e; injection e with _ e; injection e with e _; rw [← e]; exact hz)
    ·exact eventOf_4b k _ a _ cap w rfl hl2 hcap hmax hs h4 hr (fun x' y' z' e => by injection e with _ e; injection e with _ e; injection e with e _; rw [← e]; omega)
   ·exact eventOf_4n k r a _ cap w rfl hl2 hcap hmax hs h4 hr
  by_cases h5 : k.toNat = 5
  ·by_cases hr : r.length = 2
   ·exact eventOf_5y k r a _ cap w rfl hl2 hcap hmax hs h5 hr
   ·exact eventOf_5n k r a _ cap w rfl hl2 hcap hmax hs h5 hr
  exact eventOf_0 k r a _ cap w rfl hl2 hcap hmax hs ⟨h1, h2, h3, h4, h5⟩
end Go.Proofs.YtkemlckmfgacdaaGreatDoor
namespace Go.Proofs.YtkemlckmfgacdaaGreatDoor
set_option maxRecDepth 20000
set_option maxHeartbeats 64000000
open Go.ChangeShapes Go.WideShapes Go.ChangeAt Go.RowKit
set_option linter.unusedVariables false
set_option linter.unusedSimpArgs false
open Tp Jm Ev
theorem infoEv : (Tryz.prog.info? 40).map (fun i => (i.zero, i.size, i.bytes)) = some (some (.agg #[.int .i64 0, .string ⟨#[]⟩, .int .i64 0, .int .i64 0, .int .i64 0, .int .i64 0, .int .i64 0, .string ⟨#[]⟩, .string ⟨#[]⟩, .int .i64 0, .slice none 0 0, .slice none 0 0, .int .i64 0, .int .i64 0, .bool false]), 15, 176) := by kernel_rfl
theorem EvN.toP {B : Nat} {w : World} {x : Evt} {v : Value} (h : EvN B w x v) : EvP (fun b => B ≤ b ∧ b < w.heap.size) w x v := by
 obtain ⟨U, P, a, b, c, x0, x1, x2, x3, xd, xl, xc, aa, n, ac, rfl, h⟩ := h
 exact ⟨U, P, a, b, c, x0, x1, x2, x3, xd, xl, xc, aa, n, ac, rfl, h.toQ⟩
theorem EvP.form {p : Nat → Prop} {w : World} {x : Evt} {v : Value} (h : EvP p w x v) : ∃ (yk : Int) (yu : ByteArray) (yp ya yb yc y0 : Int) (y1 y2 : ByteArray) (y3 : Int) (yd : Option Addr) (yl ye9 : Nat) (ye : Option Addr) (yn ym : Nat) (yN yI : Int) (yO : Bool), v = .agg #[.int .i64 yk, .string yu, .int .i64 yp, .int .i64 ya, .int .i64 yb, .int .i64 yc, .int .i64 y0, .string y1, .string y2, .int .i64 y3, .slice yd yl ye9, .slice ye yn ym, .int .i64 yN, .int .i64 yI, .bool yO] := h.toV.form
def CutQ (w : World) (R : List Evt × Nat) (e : Ending) (w' : World) : Prop := ∃ v vs, e = .returned (.tuple #[v, .int .i64 (R.2 : Int)]) ∧ EvsQ w.heap.size w' v R.1 vs ∧ Below w.heap.size w w'
theorem CutQ.mk' {w w' : World} {H : Nat} (hH : w.heap.size = H) {v : Value} {vs : List Value} {L : List Evt} {i : Nat} (h1 : EvsQ H w' v L vs) (h2 : Below H w w') : CutQ w (L, i) (.returned (.tuple #[v, .int .i64 (i : Int)])) w' := by
 subst hH
 exact ⟨v, vs, rfl, h1, h2⟩
theorem two_num {s : Bs} (h : ¬ s.length < 2) : ∃ c d : UInt8, s[0]? = some c ∧ s[1]? = some d ∧ num (s.take 2) = c.toNat * 256 + d.toNat := by
 match s, h with
 | [], h => exact absurd (by simp) h
 | [_], h => exact absurd (by simp) h
 | c :: d :: s, _ => exact ⟨c, d, rfl, rfl, by simp [num]⟩
theorem zE_fault : zE.fault = 1 := rfl
theorem rd_sizeE {b : Bs} {x : Evt} (h : rd b = some x) : x.job.ask.size ≤ 1000000000 := by
 cases b with
 | nil => cases h
 | cons k r =>
  rw [← keep_first] at h
  unfold keep at h
  split at h
  ·rename_i y hy
   split at h
   ·injection h with h
    subst h
    exact first_size hy
   ·cases h
  ·cases h
theorem zE_frm : zE.frm = [] := rfl
theorem cut_pos (b : Bs) (a : Option Addr) (n cap : Nat) (w : World) (hn : b.length = n) (hn0 : 0 < n) (h600 : n ≤ 600) (hcap : n ≤ cap) (hmax : cap ≤ 9223372036854775807) (he : Env w) (hb : BytA w a b) : Calls Tryz.prog 22 #[.slice a n cap] w (CutQ w (iter b (n + 1) ([], 0))) := by
 obtain ⟨H, hH⟩ : ∃ H, w.heap.size = H := ⟨_, rfl⟩
 have HH := hid hH
 obtain ⟨R, hR⟩ : ∃ R, iter b (n + 1) ([], 0) = R := ⟨_, rfl⟩
 have HR0 := hid hR
 obtain ⟨bl, off, rfl, hbl, -⟩ := hb.vals (by rw [u8s_len]; omega)
 have HBY : Hid (∀ W, Below H w W → BytA W (some ⟨bl, off, none⟩) b) := hid (fun W h => hb.below (by rw [hH]; exact h))
 have HN := hid hn
 have HEV : Hid (∀ W, Below H w W → Env W) := hid (fun W h => he.below h (Nat.le_of_eq hH))
 have HMX := hid hmax
 rw [hR]
 clear hH hR hbl hb hn he hmax
 go_enter Tryz.func22, Tryz.ntmps22
 go_wp2_with fail
 go_loopg [4, 5] (n + 1) (fun g x y wr => ∃ (L : List Evt) (vs : List Value) (i : Nat), y = .int .i64 (i : Int) ∧ Hid (EvsQ H wr x L vs) ∧ Hid (iter b g (L, i) = R) ∧ Hid (i ≤ n ∧ n - i < g ∧ 10 * L.length ≤ i) ∧ Hid (Below H w wr))
 case atStart => exact ⟨[], [], 0, rfl, hid (EvsQ.nil _ _), HR0, hid ⟨by omega, by omega, by simp⟩, hid (Below.refl _ _)⟩
 case round =>
  obtain ⟨L, vs, i, rfl, HL, HI, HA, HB⟩ := hrel
  obtain ⟨hin, hig, hil⟩ := HA.out
  obtain ⟨q, hq⟩ : ∃ q, gk = q + 1 := ⟨gk - 1, by omega⟩
  have HQ := hid hq
  have HIG := hid hig
  have HIL := hid hil
  have hi0 : (0 : Int) ≤ (i : Int) := by omega
  have hi1 : (i : Int) ≤ (n : Int) := by omega
  have hi2 : (i : Int) ≤ (cap : Int) := by omega
  have hi3 : (n : Int) ≤ (cap : Int) := by omega
  have HIN := hid hin
  clear hq hig hin hil
  go_upto_region 4 with fail
  obtain ⟨pq, hpq⟩ : ∃ q, (if cap = i then some (⟨bl, off, none⟩ : Addr) else some ⟨bl, off + i, none⟩) = some ⟨bl, q, none⟩ := by
   by_cases h : cap = i
   ·exact ⟨off, by rw [if_pos h]⟩
   ·exact ⟨off + i, by rw [if_neg h]⟩
  have HBR : Hid (∀ W, Below H w W → BytA W (some ⟨bl, pq, none⟩) (b.drop i)) := hid (fun W hW => by
   rw [← hpq]
   by_cases h : cap = i
   ·rw [List.drop_eq_nil_of_le (by have := HN.out; omega)]
    exact BytA.nil _ _
   ·rw [if_neg h]
    exact (HBY.out W hW).drop i)
  obtain ⟨m, hm⟩ : ∃ m, n - i = m := ⟨_, rfl⟩
  obtain ⟨c2, hc2⟩ : ∃ m, cap - i = m := ⟨_, rfl⟩
  have hdl : (b.drop i).length = m := by rw [List.length_drop, HN.out, hm]
  have HM := hid hm
  have HDL := hid hdl
  have hmc : m ≤ c2 := by have := HIN.out; omega
  have hc263 : c2 ≤ 9223372036854775807 := by have := HMX.out; omega
  have HC63 := hid hc263
  have hm6 : m ≤ 600 := by omega
  rw [hpq, hm, hc2]
  clear hpq hm hc2 hdl hi2 hi3 hc263
  by_cases h2 : m < 2
  ·have HST : Hid (R = (L, i)) := hid (by rw [← HI.out, HQ.out]; exact iter_stop (next_short (by rw [HDL.out]; exact h2)))
   have h2' : (m : Int) < 2 := by omega
   clear h2
   go_wp2_with fail
   go_ret2
   rw [HST.out]
   exact CutQ.mk' HH.out HL.out HB.out
  have h2' : ¬ (m : Int) < 2 := by omega
  have H2 : Hid (¬ (b.drop i).length < 2) := hid (by rw [HDL.out]; exact h2)
  obtain ⟨c, d, hc, hd, hnum⟩ := two_num H2.out
  obtain ⟨b9, o9, he9, -, hcells⟩ := (HBR.out wr HB.out).cell hc
  injection he9 with he9
  injection he9 with hx9 hy9
  subst hx9 hy9
  have hcell0 : wr.cell? ⟨bl, pq, none⟩ = some (.int .u8 (c.toNat : Int)) := hcells 0 c hc
  have hcell1 : wr.cell? ⟨bl, pq + 1, none⟩ = some (.int .u8 (d.toNat : Int)) := hcells 1 d hd
  have hblr : bl < wr.heap.size := by
   obtain ⟨b8, o8, he8, hb8, -⟩ := (HBR.out wr HB.out).cell hc
   injection he8 with he8
   injection he8 with hx8 hy8
   rw [hx8]
   exact hb8
  obtain ⟨z, hz⟩ : ∃ z : Int, (c.toNat : Int) = z := ⟨_, rfl⟩
  obtain ⟨y, hy⟩ : ∃ z : Int, (d.toNat : Int) = z := ⟨_, rfl⟩
  obtain ⟨N, hN⟩ : ∃ N, num ((b.drop i).take 2) = N := ⟨_, rfl⟩
  have hz0 : 0 ≤ z := by omega
  have hz1 : z < 256 := by have := c.toNat_lt; omega
  have hy0 : 0 ≤ y := by omega
  have hy1 : y < 256 := by have := d.toNat_lt; omega
  have hzy : z * 256 + y = (N : Int) := by rw [← hz, ← hy, ← hN, hnum]; omega
  have hN16 : N < 65536 := by omega
  have hw1 : IntKind.i64.wrap (z * 256) = z * 256 := IntWalk.i64_in _ (by omega)
  have hw2 : IntKind.i64.wrap (z * 256 + y) = (N : Int) := by rw [hzy]; exact IntWalk.i64_in _ (by omega)
  have hw3 : IntKind.i64.wrap ((N : Int) + 10) = (N : Int) + 10 := IntWalk.i64_in _ (by omega)
  have hw4 : IntKind.i64.wrap ((N : Int) + 2) = (N : Int) + 2 := IntWalk.i64_in _ (by omega)
  have hm0 : (0 : Int) < (m : Int) := by omega
  have hm1 : (1 : Int) < (m : Int) := by omega
  have HNM : Hid (num ((b.drop i).take 2) = N) := hid hN
  rw [hz] at hcell0
  rw [hy] at hcell1
  clear hc hd hnum hcells hz hy hN hzy
  go_upto_region 6 with fail
  go_upto_region 7 with (go_quiet (fail))
  clear hcell0 hcell1 hw1 hw2 hz0 hz1 hy0 hy1 hm0 hm1
  obtain ⟨W1, hW1⟩ : ∃ W, W = wr.drewN nq := ⟨_, rfl⟩
  have hb1 : Below wr.heap.size wr W1 := by rw [hW1]; exact below_drewN (Below.refl _ _) nq
  have HB1 : Hid (Below H w W1) := hid (HB.out.trans (hb1.mono (by rw [← HH.out]; exact HB.out.size)))
  have HL1 := hid (HL.out.step hb1)
  have HX1 : Hid (∀ k, u4.ownBlock = some k → k < W1.heap.size) := hid (fun k hk => Nat.lt_of_lt_of_le ((HL.out.own.lt k hk).2) hb1.size)
  rw [← hW1]
  clear hW1 hb1 hblr
  by_cases h10 : m < N + 10
  ·have HST : Hid (R = (L, i)) := hid (by rw [← HI.out, HQ.out]; exact iter_stop (next_cut H2.out HNM.out (by rw [HDL.out]; exact h10)))
   have h10' : (m : Int) < (N : Int) + 10 := by omega
   clear h10
   go_wp2_with fail
   go_ret2
   rw [HST.out]
   exact CutQ.mk' HH.out HL1.out HB1.out
  have h10' : ¬ (m : Int) < (N : Int) + 10 := by omega
  have H10 : Hid (¬ (b.drop i).length < N + 10) := hid (by rw [HDL.out]; exact h10)
  have hc2n : ¬ c2 = 2 := by omega
  have hc21 : (2 : Int) ≤ (c2 : Int) := by omega
  have hc22 : (N : Int) + 2 ≤ (c2 : Int) := by omega
  have hc23 : (2 : Int) ≤ (N : Int) + 2 := by omega
  have hc24 : (N : Int) + 10 ≤ (c2 : Int) := by omega
  have hN6 : N ≤ 590 := by omega
  obtain ⟨s, hs⟩ : ∃ s, ((b.drop i).drop 2).take N = s := ⟨_, rfl⟩
  have hsl : s.length = N := by rw [← hs, List.length_take, List.length_drop, HDL.out]; omega
  have HSL := hid hsl
  have HSS := hid hs
  have HDE0 := decode_any s (some ⟨bl, pq + 2, none⟩) N (c2 - 2) W1 hsl (by omega) (by have := HC63.out; omega) (HEV.out W1 HB1.out) (by rw [← hs]; exact ((HBR.out W1 HB1.out).drop 2).take N)
  rw [if_neg (by omega), if_neg (by omega)] at HDE0
  have HDE := hid HDE0
  clear hs hsl HDE0 hN6 h10
  cases hO : rd s with
  | none =>
   rw [hO] at HDE
   have HST : Hid (R = (L, i)) := hid (by rw [← HI.out, HQ.out]; exact iter_stop (next_bad H2.out HNM.out H10.out (by rw [HSS.out]; exact hO)))
   clear hO
   go_wp2_with fail
   refine Calls.mono HDE.out ?_
   rintro e W2 ⟨hbn, he2⟩
   unfold evVal at he2
   obtain rfl := he2
   have HB2 : Hid (Below H w W2) := hid (HB1.out.trans (hbn.mono (by rw [← HH.out]; exact HB1.out.size)))
   have HL2 := hid (HL1.out.step hbn)
   clear hbn
   go_upto_region 10 with fail
   obtain ⟨W3, hW3⟩ : ∃ W, W2.alloc (.cells #[.int .i64 0, .string ⟨#[]⟩, .int .i64 0, .int .i64 0, .int .i64 0, .int .i64 0, .int .i64 0, .string ⟨#[]⟩, .string ⟨#[]⟩, .int .i64 0, .slice none 0 0, .slice none 0 0, .int .i64 0, .int .i64 0, .bool false] 40) = W := ⟨_, rfl⟩
   obtain ⟨g, hg⟩ : ∃ d, d = W2.heap.size := ⟨_, rfl⟩
   have hbn : Below W2.heap.size W2 W3 := be0 hW3.symm
   have HY3 : Hid (BoxV g [.int .i64 0, .string ⟨#[]⟩, .int .i64 0, .int .i64 0, .int .i64 0, .int .i64 0, .int .i64 0, .string ⟨#[]⟩, .string ⟨#[]⟩, .int .i64 0, .slice none 0 0, .slice none 0 0, .int .i64 0, .int .i64 0, .bool false] W3) := hid (by rw [← hW3]; exact BoxV.top _ hg)
   have HB3 : Hid (Below H w W3) := hid (HB2.out.trans (hbn.mono (by rw [← HH.out]; exact HB2.out.size)))
   have HL3 := hid (HL2.out.step hbn)
   have HFR0 := frame_any zE _ W3 (by decide) (HEV.out W3 HB3.out) (zE_v W3)
   rw [zE_fault, zE_frm] at HFR0
   unfold evVal at HFR0
   have HFR := hid HFR0
   rw [hW3, ← hg]
   clear hbn hW3 hg HFR0
   obtain ⟨r0, r1, r2, r3, r4, r5, r6, r7, r8, r9, r10, r11, r12, r13, r14⟩ := HY3.out.c15
   have hgl := HY3.out.lt
   go_wp2_with fail
   refine Calls.mono HFR.out ?_
   rintro e W4 ⟨v5, rfl, hown, hbn⟩
   have HB4 : Hid (Below H w W4) := hid (HB3.out.trans (hbn.mono (by rw [← HH.out]; exact HB3.out.size)))
   have HL4 := hid (HL3.out.step hbn)
   clear hbn hown hgl r0 r1 r2 r3 r4 r5 r6 r7 r8 r9 r10 r11 r12 r13 r14
   go_wp2_with fail
   go_ret2
   rw [HST.out]
   exact CutQ.mk' HH.out HL4.out HB4.out
  | some y =>
   rw [hO] at HDE
   have hyf := (rd_bytes hO).1
   have hyb := (rd_bytes hO).2
   have HRD : Hid (rd (((b.drop i).drop 2).take N) = some y) := hid (by rw [HSS.out]; exact hO)
   have HYF := hid hyf
   clear hO hyf hyb
   go_wp2_with fail
   refine Calls.mono HDE.out ?_
   rintro e W2 ⟨hbn, u, rfl, hun⟩
   obtain ⟨yk, yu, yp, ya, yb, yc, y0, y1, y2, y3, yd, yl, ye9, ye, yn, ym, yN, yI, yO, rfl⟩ := hun.toV.form
   have HB2 : Hid (Below H w W2) := hid (HB1.out.trans (hbn.mono (by rw [← HH.out]; exact HB1.out.size)))
   have HL2 := hid (HL1.out.step hbn)
   have HU2 := hid hun.toP
   clear hbn hun
   obtain ⟨W3, hW3⟩ : ∃ W, W2.alloc (.cells #[.int .i64 yk, .string yu, .int .i64 yp, .int .i64 ya, .int .i64 yb, .int .i64 yc, .int .i64 y0, .string y1, .string y2, .int .i64 y3, .slice yd yl ye9, .slice ye yn ym, .int .i64 yN, .int .i64 yI, .bool yO] 40) = W := ⟨_, rfl⟩
   obtain ⟨g, hg⟩ : ∃ d, d = W2.heap.size := ⟨_, rfl⟩
   have hbn : Below W2.heap.size W2 W3 := be0 hW3.symm
   have HY3 : Hid (BoxV g [.int .i64 yk, .string yu, .int .i64 yp, .int .i64 ya, .int .i64 yb, .int .i64 yc, .int .i64 y0, .string y1, .string y2, .int .i64 y3, .slice yd yl ye9, .slice ye yn ym, .int .i64 yN, .int .i64 yI, .bool yO] W3) := hid (by rw [← hW3]; exact BoxV.top _ hg)
   have HB3 : Hid (Below H w W3) := hid (HB2.out.trans (hbn.mono (by rw [← HH.out]; exact HB2.out.size)))
   have HL3 := hid (HL2.out.step hbn)
   have HU3 := hid (HU2.out.keep (fun b h => (⟨h.1, Nat.lt_of_lt_of_le h.2 hbn.size⟩ : W1.heap.size ≤ b ∧ b < W3.heap.size)) hbn.size (fun b _ hlt => hbn.block b hlt))
   have HFR0 := frame_any y _ W3 (rd_sizeE HRD.out) (HEV.out W3 HB3.out) HU3.out.toV
   rw [HYF.out, show y.frm = framed y.bytes by unfold Evt.frm; rw [if_pos HYF.out]] at HFR0
   have HFR := hid HFR0
   obtain ⟨F, hF⟩ : ∃ F, framed y.bytes = F := ⟨_, rfl⟩
   have HF := hid hF
   rw [hF] at HFR
   go_upto_region 10 with fail
   rw [← hg]
   clear hbn hW3 hg HFR0 hF
   obtain ⟨r0, r1, r2, r3, r4, r5, r6, r7, r8, r9, r10, r11, r12, r13, r14⟩ := HY3.out.c15
   have hgl := HY3.out.lt
   go_wp2_with fail
   refine Calls.mono HFR.out ?_
   rintro e W4 ⟨v5, rfl, hown, hbn⟩
   obtain ⟨a5, c5, rfl, -, -, hby, -⟩ := hown.form
   have HB4 : Hid (Below H w W4) := hid (HB3.out.trans (hbn.mono (by rw [← HH.out]; exact HB3.out.size)))
   have HL4 := hid (HL3.out.step hbn)
   have HU4 := hid (HU3.out.keep (fun b h => (⟨h.1, Nat.lt_of_lt_of_le h.2 hbn.size⟩ : W1.heap.size ≤ b ∧ b < W4.heap.size)) hbn.size (fun b _ hlt => hbn.block b hlt))
   have HY4 := hid (HY3.out.step hbn)
   have HEQ := hid (eqB_any hby ((HBR.out W4 HB4.out).take (N + 10)) rfl (show ((b.drop i).take (N + 10)).length = N + 10 by rw [List.length_take]; have := H10.out; omega) c5 c2)
   obtain ⟨fn, hfn⟩ : ∃ n, F.length = n := ⟨_, rfl⟩
   obtain ⟨qq, hqq⟩ : ∃ t, decide (F = (b.drop i).take (N + 10)) = t := ⟨_, rfl⟩
   rw [hfn, hqq] at HEQ
   rw [hfn]
   have HQQ := hid hqq
   clear hbn hown hby hfn hqq hgl r0 r1 r2 r3 r4 r5 r6 r7 r8 r9 r10 r11 r12 r13 r14
   obtain ⟨r0, r1, r2, r3, r4, r5, r6, r7, r8, r9, r10, r11, r12, r13, r14⟩ := HY4.out.c15
   have hgl := HY4.out.lt
   go_wp2_with fail
   refine Calls.mono HEQ.out ?_
   rintro e w5 ⟨rfl, hw5⟩
   subst hw5
   cases qq with
   | false =>
    have HST : Hid (R = (L, i)) := hid (by rw [← HI.out, HQ.out]; exact iter_stop (by rw [next_at H2.out HNM.out H10.out HRD.out, HF.out]; exact if_neg (of_decide_eq_false HQQ.out)))
    go_wp2_with fail
    go_ret2
    rw [HST.out]
    exact CutQ.mk' HH.out HL4.out HB4.out
   | true =>
    have HGO : Hid (iter b (q + 1) (L, i) = iter b q (L ++ [y], i + (N + 10))) := hid (iter_go (by rw [next_at H2.out HNM.out H10.out HRD.out, HF.out]; exact if_pos (of_decide_eq_true HQQ.out)))
    obtain ⟨xa, xc9, hxf, hxc, -, -⟩ := ownForm HL4.out.own
    obtain ⟨ln, hln⟩ : ∃ l, L.length = l := ⟨_, rfl⟩
    subst hxf
    have HLN := hid hln
    have hl9 : ln ≤ 1000 := by have := HIL.out; have := HIN.out; omega
    have HOWN : Hid (w5.ownsRow H 40 15 (.slice xa ln xc9) ln (vs.flatMap cel)) := hid (by have h := HL4.out.own; rw [hln] at h; exact h)
    have HL5 : Hid (EvsQ H w5 (.slice xa ln xc9) L vs) := hid (by have h := HL4.out; rw [hln] at h; exact h)
    have HX5 : Hid (∀ k, (Value.slice xa ln xc9).ownBlock = some k → k < W1.heap.size) := hid (by have h := HX1.out; rw [hln] at h; exact h)
    have hszw : H ≤ w5.heap.size := by rw [← HH.out]; exact HB4.out.size
    have hw5 : IntKind.i64.wrap ((i : Int) + ((N : Int) + 10)) = ((i + (N + 10) : Nat) : Int) := by rw [IntWalk.i64_in _ (by omega)]; omega
    rw [hln]
    clear hln
    go_wp2_with (at_builtin; go_loud (refine wpList_pushN w5 (by rfl) (.tmp 67) (.tmp 69) 51 (by rfl) H 40 (.agg #[.int .i64 0, .string ⟨#[]⟩, .int .i64 0, .int .i64 0, .int .i64 0, .int .i64 0, .int .i64 0, .string ⟨#[]⟩, .string ⟨#[]⟩, .int .i64 0, .slice none 0 0, .slice none 0 0, .int .i64 0, .int .i64 0, .bool false]) 15 176 Tryz.underlying51 infoEv (by rfl) (by decide) (.slice xa ln xc9) ln (vs.flatMap cel) [.int .i64 yk, .string yu, .int .i64 yp, .int .i64 ya, .int .i64 yb, .int .i64 yc, .int .i64 y0, .string y1, .string y2, .int .i64 y3, .slice yd yl ye9, .slice ye yn ym, .int .i64 yN, .int .i64 yI, .bool yO] _ rfl (by rfl) HOWN.out (by rfl) (by rfl) (by intro u hu; simp at hu; rcases hu with rfl | rfl | rfl | rfl | rfl | rfl | rfl | rfl | rfl | rfl | rfl | rfl | rfl | rfl | rfl <;> rfl) (by unfold maxLen; omega) (by omega) hszw ?_; intro gg cap3 w6 hown hgrow hgb hgl2; have HL6 : Hid (EvsQ H w6 (.slice (some ⟨gg, 0, none⟩) (ln + 1) cap3) (L ++ [y]) (vs ++ [.agg #[.int .i64 yk, .string yu, .int .i64 yp, .int .i64 ya, .int .i64 yb, .int .i64 yc, .int .i64 y0, .string y1, .string y2, .int .i64 y3, .slice yd yl ye9, .slice ye yn ym, .int .i64 yN, .int .i64 yI, .bool yO]])) := hid (by have h := HL5.out.push HX5.out HU4.out (g := gg) (cp := cap3) (w2 := w6) (by rw [HLN.out]; exact hown) hgrow hgb; rw [HLN.out] at h; exact h); have HB6 : Hid (Below H w w6) := hid (HB4.out.trans ((Below.refl H w5).grown hgrow hszw (ownBlock_ge HOWN.out lr))); clear hown hgrow hgb))
    go_roundg q
    case measure => (have := HQ.out; omega)
    case rel => exact ⟨L ++ [y], _, i + (N + 10), rfl, HL6, hid (by rw [← HGO.out, ← HQ.out]; exact HI.out), hid ⟨by have := H10.out; have := HDL.out; have := HM.out; omega, by have := HIG.out; have := HQ.out; have := H10.out; have := HDL.out; have := HM.out; omega, by rw [List.length_append, List.length_singleton]; have := HIL.out; omega⟩, HB6⟩
theorem cut_zero (a : Option Addr) (cap : Nat) (w : World) : Calls Tryz.prog 22 #[.slice a 0 cap] w (CutQ w (iter [] (0 + 1) ([], 0))) := by
 have HS : Hid (iter [] (0 + 1) ([], 0) = ([], 0)) := hid (iter_stop (next_short (by simp)))
 rw [HS.out]
 have hc0 : (0 : Int) ≤ (cap : Int) := by omega
 cases a with
 | none =>
  go_enter Tryz.func22, Tryz.ntmps22
  go_wp2_with fail
  go_rounds 1
  go_wp2_with fail
  go_ret2
  exact CutQ.mk' rfl (EvsQ.nil _ _) (Below.refl _ _)
 | some ad =>
  go_enter Tryz.func22, Tryz.ntmps22
  go_wp2_with fail
  go_rounds 1
  go_wp2_with fail
  go_ret2
  exact CutQ.mk' rfl (EvsQ.nil _ _) (Below.refl _ _)
theorem cut_any (b : Bs) (a : Option Addr) (n cap : Nat) (w : World) (hn : b.length = n) (h600 : n ≤ 600) (hcap : n ≤ cap) (hmax : cap ≤ 9223372036854775807) (he : Env w) (hb : BytA w a b) : Calls Tryz.prog 22 #[.slice a n cap] w (CutQ w (iter b (n + 1) ([], 0))) := by
 by_cases h0 : 0 < n
 ·exact cut_pos b a n cap w hn h0 h600 hcap hmax he hb
 ·obtain rfl : n = 0 := by omega
  obtain rfl : b = [] := List.eq_nil_of_length_eq_zero hn
  exact cut_zero a cap w
end Go.Proofs.YtkemlckmfgacdaaGreatDoor
